/- Loads, stores, local memory. -/
import Derived.Test.YtmekbgeknkknfaaG2
import Derived.Laws.IdiomCopy
set_option linter.unusedVariables false
set_option linter.unusedSimpArgs false
set_option linter.unusedSectionVars false
set_option linter.constructorNameAsVariable false
namespace Go.Ab

theorem mapRange_get {α : Type} {n j : Nat} {val : Nat → α} {v : α} (h : ((List.range n).map val)[j]? = some v) : j < n ∧ v = val j := by
  have hj : j < n := by simpa using lt_of_getElem? h
  rw [List.getElem?_map, List.getElem?_range hj] at h
  simp only [Option.map_some, Option.some.injEq] at h
  exact ⟨hj, h.symm⟩

theorem canon_isCell {k : CK} {x : AV} (h : x.isCell = true) : (canon k x).isCell = true := by
  cases k <;> cases x <;> simp_all [canon, AV.isCell]

theorem canon_VR {g : Gh} {w : World} {k : CK} {x : AV} {v : Value} (h : canonOk k x = true) (hx : VR g w x v) : VR g w (canon k x) v := by
  cases k with
  | b => cases hx <;> simp_all [canonOk, canon, AV.isBool, AV.boolOf]; exact .bool _
  | i k =>
    cases hx <;> simp_all [canonOk, canon, AV.isInt, AV.intOf]
    exact .int _ _
  | s =>
    cases hx with
    | str l s h1 => exact .str l s h1
    | _ => simp_all [canonOk, canon, AV.isStr, AV.strOf]
  | l sz =>
    cases hx with
    | slnil sz' own => exact .slnil _ _
    | sl sz' rows own b o cap val hcap hz hc hv hp hm =>
      simp only [canonOk, AV.isSl, Bool.false_or, beq_iff_eq] at h
      subst h
      exact .sl _ _ _ b o cap val hcap hz hc hv hp hm
    | psl sz' rows b o cap val hcap hz hc hv hp hm => exact .psl _ _ b o cap val hcap hz hc hv hp hm
    | vs k off n sz' b cap arr e fr h1 hcap hb hsz hfr => exact .vs k off n sz' b cap arr e fr h1 hcap hb hsz hfr
    | _ => simp_all [canonOk, AV.isSl]
  | x => simp [canonOk] at h
  | _ => exact hx

theorem canons_get : ∀ {ks : List CK} {cs : List AV}, canonOks ks cs = true → ∀ (j : Nat) (y : AV), (canons ks cs)[j]? = some y → ∃ k c, cs[j]? = some c ∧ ks[j]? = some k ∧ canonOk k c = true ∧ y = canon k c
  | [], [], _, j, y, h => by simp [canons] at h
  | [], _ :: _, h, _, _, _ => by simp [canonOks] at h
  | _ :: _, [], h, _, _, _ => by simp [canonOks] at h
  | k :: ks, c :: cs, h, j, y, hy => by
    simp only [canonOks, Bool.and_eq_true] at h
    cases j with
    | zero => simp [canons] at hy; exact ⟨k, c, rfl, rfl, h.1, hy.symm⟩
    | succ j => simp [canons] at hy; simpa using canons_get h.2 j y hy

theorem canons_length : ∀ {ks : List CK} {cs : List AV}, canonOks ks cs = true → (canons ks cs).length = ks.length
  | [], [], _ => rfl
  | [], _ :: _, h => by simp [canonOks] at h
  | _ :: _, [], h => by simp [canonOks] at h
  | k :: ks, c :: cs, h => by
    simp only [canonOks, Bool.and_eq_true] at h
    simp [canons, canons_length h.2]

theorem canon_sl {k : CK} {c : AV} {z : Nat} {n : Bool} {rows : List (List AV)} {o : Own} (h : canonOk k c = true) (hc : canon k c = .sl z n rows o) :
    o = .no ∧ ∃ z' o', c = .sl z' n rows o' ∧ (n = true ∨ z = z') := by
  cases k <;> cases c <;> simp_all [canon, canonOk, AV.isBool, AV.isInt, AV.isStr, AV.isSl, AV.slNil, AV.slRows]
  rcases h with h | h
  · exact .inl (by rw [← h]; try simp_all)
  · exact .inr h.symm

theorem FLo_sz {g : Gh} {w : World} {own : Own} {z z' n : Nat} {isn : Bool} {rows : List (List AV)} {o : Own} {v : Value} (hz : isn = true ∨ z = z') (hv : VR g w (.sl z' isn rows o) v) (h : FLo g w own z' n v) : FLo g w own z n v := by
  rcases hz with rfl | rfl
  · cases hv
    exact .inr (.inr (.inl rfl))
  · exact h

/-- The class of the cell at a pointer. -/
def locOf (x : AV) (j : Nat) : Own :=
  match x with
  | .lp k o => .lc k (o + j)
  | .gp k o => .gc k (o + j)
  | _ => .no

theorem VR_own {g : Gh} {w : World} {sz : Nat} {n : Bool} {rows : List (List AV)} {o : Own} {v : Value} (o' : Own) (h : VR g w (.sl sz n rows o) v) : VR g w (.sl sz n rows o') v := by
  cases h with
  | slnil => exact .slnil _ _
  | sl _ _ _ b o cap val hcap hz hc hv hp hm => exact .sl _ _ _ b o cap val hcap hz hc hv hp hm

theorem VR_strip {g : Gh} {w : World} {x : AV} {v : Value} (h : VR g w x v) : VR g w x.strip v := by
  cases x <;> first
    | exact VR_own _ h
    | exact h

theorem VR_fresh {g : Gh} {w : World} {x : AV} {v : Value} (st : St) (h : VR g w x v) : VR g w (fresh st x) v := by
  cases x <;> first
    | exact h
    | (simp only [fresh]; split <;> first | exact h | exact VR_own _ h)

theorem FL_fresh {g : Gh} {w : World} {x : AV} {v : Value} (st : St) (h : FL g w x v) : FL g w (fresh st x) v := by
  cases x <;> first
    | exact h
    | (simp only [fresh]; split <;> first | exact h | exact .inl rfl)

section
variable {T : Tab} {P : Program} (hT : TabOK T P) {C : Nat → List AV → List GB → Option (AV × List GB)} {Lp : Nat → Nat → Code → St → Option (Ex × St)}
  {g : Gh} {w : World} {st : St} {a : Act}

theorem cell?_of_block {b : Nat} {arr : Array Value} {e : TypeId} {fr : Nat × Nat} (h : w.heap[b]? = some (.cells arr e fr)) (j : Nat) : w.cell? ⟨b, j, none⟩ = arr[j]? := by
  simp [World.cell?, h]

theorem BR_cells {b : Nat} {loc : Nat → Own} {cs : List AV} (h : BR g w b loc cs) : ∃ val : Nat → Value, ∀ (j : Nat) x, cs[j]? = some x → w.cell? ⟨b, j, none⟩ = some (val j) ∧ VR g w x (val j) ∧ FL g w (atLoc (loc j) x) (val j) ∧ x.isCell = true ∧ okOwn x = true := by
  obtain ⟨arr, e, fr, hb, hle, _, hall⟩ := h
  refine ⟨fun j => arr.getD j undef, fun j x hx => ?_⟩
  obtain ⟨v, h1, h2, h3, h4, h5⟩ := hall j x hx
  have : arr.getD j undef = v := by rw [Array.getD_eq_getD_getElem?, h1]; rfl
  simp only [this]
  exact ⟨by rw [cell?_of_block hb]; exact h1, h2, h3, h4, h5⟩

theorem readCells_sound (hR : Rel g st a w) {x : AV} {n : Nat} {cs : List AV} {v : Value} (h : den C Lp (readCells st x n) = some cs) (hx : VR g w x v) :
    ∃ (b o : Nat) (val : Nat → Value), v = .pointer (some ⟨b, o, none⟩) ∧ cs.length = n ∧ ∀ (j : Nat) c, cs[j]? = some c → w.cell? ⟨b, o + j, none⟩ = some (val j) ∧ VR g w c (val j) ∧ c.isCell = true ∧
      ((∃ k o', x = .lp k o' ∨ x = .gp k o') → FL g w (atLoc (locOf x j) c) (val j) ∧ okOwn c = true) := by
  cases hx with
  | lp k o b hb =>
    simp only [readCells] at h
    obtain ⟨h1, h⟩ := den_chk_some C Lp h
    simp only [decide_eq_true_eq] at h1
    simp only [den_ret, Option.some.injEq] at h
    subst h
    rw [nthL_eq_getD] at h1 ⊢
    cases hLk : st.L[k]? with
    | none =>
      have : st.L.getD k [] = [] := by simp [List.getD, hLk]
      rw [this] at h1 ⊢
      simp at h1
      exact ⟨b, o, fun _ => undef, rfl, by simp; omega, by simp⟩
    | some L =>
      have e1 : st.L.getD k [] = L := by simp [List.getD, hLk]
      rw [e1] at h1 ⊢
      by_cases hne : L = []
      · subst hne
        simp at h1
        exact ⟨b, o, fun _ => undef, rfl, by simp; omega, by simp⟩
      · obtain ⟨b', hb', hBR⟩ := hR.lr k L hLk hne
        rw [hb] at hb'
        obtain rfl : b = b' := by simpa using hb'
        obtain ⟨val, hval⟩ := BR_cells hBR
        refine ⟨b, o, fun j => val (o + j), rfl, by rw [List.length_take, List.length_drop]; omega, fun j c hj => ?_⟩
        rw [List.getElem?_take] at hj
        split at hj
        · rw [List.getElem?_drop] at hj
          obtain ⟨q1, q2, q3, q4, q5⟩ := hval _ _ hj
          exact ⟨q1, q2, q4, fun _ => ⟨q3, q5⟩⟩
        · simp at hj
  | gp k o b hb =>
    simp only [readCells] at h
    cases hHk : st.H[k]? with
    | none =>
      have : st.H.getD k (.map []) = .map [] := by simp [List.getD, hHk]
      rw [this] at h
      simp at h
    | some G =>
      have e1 : st.H.getD k (.map []) = G := by simp [List.getD, hHk]
      rw [e1] at h
      cases G with
      | map es => simp at h
      | cells L =>
        simp only at h
        obtain ⟨h1, h⟩ := den_chk_some C Lp h
        simp only [decide_eq_true_eq] at h1
        simp only [den_ret, Option.some.injEq] at h
        subst h
        obtain ⟨b', hb', hBR, _⟩ := hR.hr.cells k L hHk
        rw [hb] at hb'
        obtain rfl : b = b' := by simpa using hb'
        obtain ⟨val, hval⟩ := BR_cells hBR
        refine ⟨b, o, fun j => val (o + j), rfl, by rw [List.length_take, List.length_drop]; omega, fun j c hj => ?_⟩
        rw [List.getElem?_take] at hj
        split at hj
        · rw [List.getElem?_drop] at hj
          obtain ⟨q1, q2, q3, q4, q5⟩ := hval _ _ hj
          exact ⟨q1, q2, q4, fun _ => ⟨q3, q5⟩⟩
        · simp at hj
  | ep row off b o val hc hv hp hm =>
    simp only [readCells] at h
    obtain ⟨h1, h⟩ := den_chk_some C Lp h
    simp only [decide_eq_true_eq] at h1
    simp only [den_ret, Option.some.injEq] at h
    subst h
    refine ⟨b, o + off, fun j => val (off + j), rfl, by rw [List.length_take, List.length_drop]; omega, fun j c hj => ?_⟩
    rw [List.getElem?_take] at hj
    split at hj
    · rw [List.getElem?_drop] at hj
      refine ⟨by rw [Nat.add_assoc]; exact hc _ _ hj, hv _ _ hj, noLp1_isCell (hp c (mem_of_getElem? hj)), ?_⟩
      rintro ⟨k, o', h | h⟩ <;> cases h
    · simp at hj
  | _ => simp [readCells] at h

include hT

theorem loadBlk_sound (hR : Rel g st a w) {t : Nat} {x y : AV} {v : Value} (h : den C Lp (loadBlk T st t x) = some y) (hx : VR g w x v) :
    ∃ u, (Instr.loadAt t v).run P w = .ok u w ∧ VR g w y u ∧ FL g w (fresh st y) u := by
  unfold loadBlk at h
  obtain ⟨cs, h1, h⟩ := den_bind_some C Lp h
  obtain ⟨b, o, val, rfl, hlen, hcs⟩ := readCells_sound hR h1 hx
  obtain ⟨hcan, h⟩ := den_chk_some C Lp h
  have hne : T.sh t ≠ .other := by
    intro h0
    have hk := hT.ks t
    unfold ksOk at hk
    rw [h0] at hk
    simp only at hk
    rw [hk] at hcan
    cases cs with
    | nil => simp [canonOks] at hcan
    | cons c cs => simp [canonOks, canonOk] at hcan
  have ha := run_isAgg hT hne w
  have hse := run_sizeOf hT hne w
  have hlen' : cs.length = (T.ks t).length := hlen
  have hload : (loadCells ⟨b, o, none⟩ (T.ks t).length).run P w = .ok ((List.range (T.ks t).length).map val).toArray w := by
    have := run_loadCells_list (P := P) w ⟨b, o, none⟩ ((List.range (T.ks t).length).map val) (fun j v hv => by
      obtain ⟨hj, rfl⟩ := mapRange_get hv
      rw [add_none]
      exact (hcs j _ (List.getElem?_eq_getElem (by omega))).1)
    simpa using this
  by_cases hA : isAgg T t = true
  · rw [if_pos hA] at h
    simp only [den_ret, Option.some.injEq] at h
    subst h
    refine ⟨.agg ((List.range (T.ks t).length).map val).toArray, by simp [Instr.loadAt, Instr.sureAddr, loadVar, ha, hA, hse, hload], ?_, trivial⟩
    refine .agg _ _ val (by simp [canons_length hcan]) ?_ ?_ ?_
    · intro j x hx
      have hj := lt_of_getElem? hx
      rw [canons_length hcan] at hj
      simp [hj]
    · intro j x hx
      obtain ⟨k, c, hc, _, hok, rfl⟩ := canons_get hcan j x hx
      exact canon_VR hok (hcs j c hc).2.1
    · intro x hx
      obtain ⟨j, hj⟩ := List.getElem?_of_mem hx
      obtain ⟨k, c, hc, _, hok, rfl⟩ := canons_get hcan j x hj
      exact canon_isCell (hcs j c hc).2.2.1
  · rw [if_neg hA] at h
    have hone : (T.ks t).length = 1 := (ks_one hT hne).resolve_left hA
    clear h1 hload hlen
    cases cs with
    | nil => simp at hlen'; omega
    | cons c cs =>
      cases cs with
      | cons _ _ => simp at hlen'; omega
      | nil =>
        cases hk : T.ks t with
        | nil => rw [hk] at hone; simp at hone
        | cons k ks =>
          cases ks with
          | cons _ _ => rw [hk] at hone; simp at hone
          | nil =>
            rw [hk] at hcan h
            simp only [canons, den_ret, Option.some.injEq] at h
            obtain ⟨q1, q2, q3, q4⟩ := hcs 0 c rfl
            simp only [canonOks, Bool.and_true] at hcan
            have hv := canon_VR hcan q2
            refine ⟨val 0, by simp [Instr.loadAt, Instr.sureAddr, loadVar, ha, hA, show w.cell? ⟨b, o, none⟩ = some (val 0) from q1], ?_⟩
            clear hlen' hone
            suffices hs : VR g w y (val 0) ∧ FL g w y (val 0) from ⟨hs.1, FL_fresh st hs.2⟩
            subst h
            split
            · rename_i z n rows o1 z' n' rows' hc hcc
              have hc2 : c = .sl z' n' rows' .self := by simpa using hcc
              obtain ⟨rfl, z2, o2, h2, hz⟩ := canon_sl hcan hc
              rw [hc2] at h2
              cases h2
              rw [hc2] at q2 q4
              rw [hc] at hv
              split
              · rename_i k' o' 
                refine ⟨VR_own _ hv, ?_⟩
                have := (q4 ⟨_, _, .inl rfl⟩).1
                simp only [atLoc, locOf, Nat.add_zero, FL] at this
                exact FLo_sz hz q2 this
              · rename_i k' o'
                refine ⟨VR_own _ hv, ?_⟩
                have := (q4 ⟨_, _, .inr rfl⟩).1
                simp only [atLoc, locOf, Nat.add_zero, FL] at this
                exact FLo_sz hz q2 this
              · exact ⟨VR_own _ hv, .inl rfl⟩
            · refine ⟨hv, ?_⟩
              cases hc : canon k c with
              | sl z n rows o =>
                obtain ⟨rfl, _⟩ := canon_sl hcan hc
                exact .inl rfl
              | _ => trivial

omit hT in
theorem canonE_eq {k : CK} {v : AV} (h : canonOkE k v = true) : canonOk k v = true ∧ canon k v = canonE k v := by
  unfold canonOkE at h
  simp only [Bool.and_eq_true] at h
  refine ⟨h.1, ?_⟩
  cases k with
  | l sz =>
    cases v <;> simp_all [AV.isSl, canon, canonE]
  | _ => rfl
omit hT in
theorem epCells_eq : ∀ (ks : List CK) (row : List AV) (o : Nat), epOks ks row o = true → o + ks.length ≤ row.length →
    canonOks ks ((row.drop o).take ks.length) = true ∧ canons ks ((row.drop o).take ks.length) = epCells ks row o
  | [], row, o, _, _ => by simp [canonOks, canons, epCells]
  | k :: ks, row, o, h, hl => by
    have h' : (canonOkE k (nth row o) && epOks ks row (o + 1)) = true := h
    simp only [Bool.and_eq_true] at h'
    simp only [List.length_cons] at hl ⊢
    have hlt : o < row.length := by omega
    have hn : nth row o = row[o] := by rw [nth_eq_getD]; simp [List.getD, hlt]
    obtain ⟨i1, i2⟩ := epCells_eq ks row (o + 1) h'.2 (by omega)
    obtain ⟨c1, c2⟩ := canonE_eq h'.1
    rw [List.drop_eq_getElem_cons hlt, List.take_succ_cons]
    rw [hn] at c1 c2
    refine ⟨by simp only [canonOks, c1, i1, Bool.and_self], ?_⟩
    show _ = canonE k (nth row o) :: epCells ks row (o + 1)
    rw [hn]
    simp only [canons, c2, i2]
omit hT in
theorem canonE_own {k : CK} {v c : AV} {sz : Nat} {n : Bool} {rows : List (List AV)} {o : Own} (h : canonOkE k v = true) (hc : canonE k v = .sl sz n rows o) : o = .no := by
  rw [← (canonE_eq h).2] at hc
  exact (canon_sl (canonE_eq h).1 hc).1

omit hT in
theorem loadEp_blk {t : Nat} {row : List AV} {o : Nat} {x y : AV} (hx : readCells st x (size T t) = chk (decide (o + size T t ≤ row.length)) (.ret ((row.drop o).take (size T t)))) (hsl : ∀ z n rows own, den C Lp (loadEp T t row o) = some (.sl z n rows own) → x = .ep row o)
    (h : den C Lp (loadEp T t row o) = some y) : den C Lp (loadBlk T st t x) = some y := by
  have h0 := h
  unfold loadEp at h
  obtain ⟨h1, h⟩ := den_chk_some C Lp h
  unfold epOk at h1
  simp only [Bool.and_eq_true, decide_eq_true_eq] at h1
  obtain ⟨c1, c2⟩ := epCells_eq (T.ks t) row o h1.2 h1.1
  unfold loadBlk
  have hr := hx
  have hs : size T t = (T.ks t).length := rfl
  rw [den_bind, hr, hs]
  have : den C Lp (chk (decide (o + (T.ks t).length ≤ row.length)) (.ret ((row.drop o).take (T.ks t).length))) = some ((row.drop o).take (T.ks t).length) := by
    rw [decide_eq_true h1.1]; rfl
  rw [this, Option.bind_some]
  show den C Lp (chk _ _) = _
  rw [c1, c2]
  show den C Lp (if isAgg T t then _ else _) = _
  by_cases hA : isAgg T t = true
  · rw [if_pos hA] at h ⊢
    exact h
  · rw [if_neg hA] at h ⊢
    cases hk : T.ks t with
    | nil => rw [hk] at h; exact absurd h (by simp [epCells])
    | cons k ks =>
      cases ks with
      | cons _ _ => rw [hk] at h; exact absurd h (by simp [epCells])
      | nil =>
        rw [hk] at h c2 h1
        have hc : epCells [k] row o = [canonE k (nth row o)] := rfl
        rw [hc] at h ⊢
        simp only [den_ret, Option.some.injEq] at h ⊢
        have hok : canonOkE k (nth row o) = true := by
          have : (canonOkE k (nth row o) && true) = true := h1.2
          simpa using this
        rw [← h]
        split
        · rename_i sz n rows o1 z n' rows' he1 _
          rw [canonE_own (c := .junk) hok he1] at he1
          rw [hsl sz n rows .no (by rw [h0, ← h, he1])]
          exact he1.symm
        · rfl

omit hT in
theorem scal_noSl : ∀ {ks : List CK}, scalB ks = true → ∀ (row : List AV) (o z : Nat) (n : Bool) (rows : List (List AV)) (own : Own), (AV.sl z n rows own) ∉ epCells ks row o
  | [], _, _, _, _, _, _, _ => fun h => by cases h
  | k :: ks, h, row, o, z, n, rows, own => by
    have h' : (bif scalK k then scalB ks else false) = true := h
    intro hm
    have hm' : AV.sl z n rows own ∈ canonE k (nth row o) :: epCells ks row (o + 1) := hm
    rcases List.mem_cons.1 hm' with e | hm'
    · cases k <;> first | (cases e; done) | (cases h'; done)
    · refine scal_noSl (ks := ks) ?_ row (o + 1) z n rows own hm'
      cases hk : scalK k with
      | true => rw [hk] at h'; exact h'
      | false => rw [hk] at h'; cases h'
omit hT in
theorem scal_load {t : Nat} {row : List AV} {o : Nat} (hs : scalB (T.ks t) = true) : ∀ z n rows own, den C Lp (loadEp T t row o) ≠ some (.sl z n rows own) := by
  intro z n rows own h
  unfold loadEp at h
  obtain ⟨_, h⟩ := den_chk_some C Lp h
  split at h
  · cases h
  · have hno := scal_noSl hs row o z n rows own
    generalize epCells (T.ks t) row o = l at h hno
    match l, h, hno with
    | [c], h, hno =>
      simp only [den_ret, Option.some.injEq] at h
      exact hno (by rw [h]; simp)
    | [], h, _ => simp at h
    | _ :: _ :: _, h, _ => simp at h
omit hT in
theorem load_blk {t : Nat} {x y : AV} (h : den C Lp (loadOp T st t x) = some y) : den C Lp (loadBlk T st t x) = some y := by
  unfold loadOp at h
  split at h
  · exact loadEp_blk rfl (fun _ _ _ _ _ => rfl) h
  · cases hs : scalB (T.ks t) with
    | true =>
      rw [hs] at h
      exact loadEp_blk rfl (fun z n rows own h1 => absurd h1 (scal_load hs z n rows own)) h
    | false => rw [hs] at h; exact h
  · exact h

theorem load_sound (hR : Rel g st a w) {t : Nat} {x y : AV} {v : Value} (h : den C Lp (loadOp T st t x) = some y) (hx : VR g w x v) :
    ∃ u, (Instr.loadAt t v).run P w = .ok u w ∧ VR g w y u ∧ FL g w (fresh st y) u := loadBlk_sound hT hR (load_blk h) hx
end
end Go.Ab
namespace Go.Ab

theorem heap_setCell_other' (w : World) (a : Addr) (v : Value) {k : Nat} (h : k ≠ a.block) : (w.setCell a v).heap[k]? = w.heap[k]? := by
  simp only [World.setCell, Array.getElem?_modify]
  rw [if_neg (fun h' => h h'.symm)]

theorem heap_setCell_same' {w : World} {b o : Nat} {arr : Array Value} {e : TypeId} {fr : Nat × Nat} (v : Value) (h : w.heap[b]? = some (.cells arr e fr)) :
    (w.setCell ⟨b, o, none⟩ v).heap[b]? = some (.cells (arr.setIfInBounds o v) e fr) := by
  simp [World.setCell, Array.getElem?_modify, h]

theorem setCells_other (b : Nat) : ∀ (vs : List Value) (o : Nat) (w : World) {k : Nat}, k ≠ b → (w.setCells b o vs).heap[k]? = w.heap[k]?
  | [], _, _, _, _ => rfl
  | v :: vs, o, w, k, h => by
    rw [World.setCells, setCells_other b vs (o + 1) _ h]
    exact heap_setCell_other' w ⟨b, o, none⟩ v h

theorem setCells_block (b : Nat) (e : TypeId) (fr : Nat × Nat) : ∀ (vs : List Value) (o : Nat) (w : World) (arr : Array Value), w.heap[b]? = some (.cells arr e fr) → o + vs.length ≤ arr.size →
    ∃ arr', (w.setCells b o vs).heap[b]? = some (.cells arr' e fr) ∧ arr'.size = arr.size ∧ ∀ j, arr'[j]? = if o ≤ j ∧ j < o + vs.length then vs[j - o]? else arr[j]?
  | [], o, w, arr, h, _ => ⟨arr, h, rfl, fun j => by rw [if_neg (by simp only [List.length_nil]; omega)]⟩
  | v :: vs, o, w, arr, h, hl => by
    simp only [List.length_cons] at hl
    obtain ⟨arr', h1, h2, h3⟩ := setCells_block b e fr vs (o + 1) (w.setCell ⟨b, o, none⟩ v) (arr.setIfInBounds o v) (heap_setCell_same' v h) (by simp; omega)
    refine ⟨arr', h1, by simpa using h2, fun j => ?_⟩
    rw [h3 j]
    simp only [List.length_cons, Array.getElem?_setIfInBounds]
    by_cases hjo : j = o
    · subst hjo
      rw [if_neg (by omega), if_pos rfl, if_pos (by omega), if_pos (by omega)]
      simp
    · by_cases hin : o ≤ j ∧ j < o + (vs.length + 1)
      · rw [if_pos (by omega), if_pos hin]
        obtain ⟨d, rfl⟩ : ∃ d, j = o + 1 + d := ⟨j - o - 1, by omega⟩
        rw [show o + 1 + d - o = d + 1 by omega, show o + 1 + d - (o + 1) = d by omega]
        rfl
      · rw [if_neg (by omega), if_neg hin, if_neg (fun h => hjo h.symm)]

theorem setCells_rest (b : Nat) : ∀ (vs : List Value) (o : Nat) (w : World), (w.setCells b o vs).os = w.os ∧ (w.setCells b o vs).output = w.output ∧ (w.setCells b o vs).tape = w.tape ∧ (w.setCells b o vs).heap.size = w.heap.size
  | [], _, _ => ⟨rfl, rfl, rfl, rfl⟩
  | v :: vs, o, w => by
    obtain ⟨h1, h2, h3, h4⟩ := setCells_rest b vs (o + 1) (w.setCell ⟨b, o, none⟩ v)
    exact ⟨h1, h2, h3, by rw [World.setCells, h4]; simp⟩

/-- A class that stands for somebody. -/
def cls : Own → Bool
  | .no | .self => false
  | _ => true

theorem FLo_t {g g' : Gh} {w w' : World} {own : Own} {sz n : Nat} {v : Value} (hF : cls own = true → ∀ b, g.ow b = own → g'.ow b = own ∧ g'.mrk b = g.mrk b ∧ w'.heap[b]? = w.heap[b]?)
    (h : FLo g w own sz n v) : FLo g' w' own sz n v := by
  rcases h with h | h | h | ⟨b, off, cap, arr, e, fr, h1, h2, h3, h4, h5, h6⟩
  · exact .inl h
  · exact .inr (.inl h)
  · exact .inr (.inr (.inl h))
  · by_cases hc : cls own = true
    · obtain ⟨q1, q2, q3⟩ := hF hc b h2
      exact .inr (.inr (.inr ⟨b, off, cap, arr, e, fr, h1, q1, by rw [q2]; exact h3, by rw [q3]; exact h4, h5, h6⟩))
    · cases own <;> simp_all [cls, FLo]

theorem FL_t {g g' : Gh} {w w' : World} {x : AV} {v : Value} (hF : cls x.slOwn = true → ∀ b, g.ow b = x.slOwn → g'.ow b = x.slOwn ∧ g'.mrk b = g.mrk b ∧ w'.heap[b]? = w.heap[b]?)
    (h : FL g w x v) : FL g' w' x v := by
  cases x with
  | sl sz n rows own => exact FLo_t hF h
  | _ => exact h

/-- Blocks whose objects stand keep what is said of them. -/
theorem BR_t {S : Nat → Bool} {g g' : Gh} {w w' : World} {b : Nat} {loc : Nat → Own} {cs : List AV} (hE : VExt S g w g' w') (hb : w'.heap[b]? = w.heap[b]?) (hd : ∀ x ∈ cs, x.depOk S = true)
    (hF : ∀ j, cls (loc j) = true → ∀ b, g.ow b = loc j → g'.ow b = loc j ∧ g'.mrk b = g.mrk b ∧ w'.heap[b]? = w.heap[b]?) (h : BR g w b loc cs) : BR g' w' b loc cs := by
  obtain ⟨arr, e, fr, h1, h2, h3, h4⟩ := h
  refine ⟨arr, e, fr, by rw [hb]; exact h1, h2, h3, fun j x hx => ?_⟩
  obtain ⟨v, q1, q2, q3, q4, q5⟩ := h4 j x hx
  refine ⟨v, q1, q2.mono hE (hd x (mem_of_getElem? hx)), FL_t ?_ q3, q4, q5⟩
  intro hc
  cases x with
  | sl sz n rows own =>
    cases own with
    | self => exact hF j hc
    | no => simp [atLoc, AV.slOwn, cls] at hc
    | _ => simp [okOwn] at q5
  | _ => simp [atLoc, AV.slOwn, cls] at hc

theorem MR_t {S : Nat → Bool} {g g' : Gh} {w w' : World} {es : List (List AV × AV)} {ents : Array MapEntry} (hE : VExt S g w g' w') (h : MR g w es ents) : MR g' w' es ents := by
  refine ⟨h.1, fun i k x hi => ?_⟩
  obtain ⟨en, h1, h2, h3, h4, h5, h6⟩ := h.2 i k x hi
  refine ⟨en, h1, h2.mono hE ?_, h3, h4.mono hE (pure1_cellDep S h5), h5, h6⟩
  simp only [AV.depOk, List.all_eq_true]
  intro c hc
  have := (List.all_eq_true.1 h3) c hc
  cases c <;> simp_all [AV.cellDep]

theorem HRel_t {S : Nat → Bool} {g g' : Gh} {w w' : World} {H : List GB} (hE : VExt S g w g' w') (hgb : g'.gb = g.gb) (hb : ∀ b ∈ g.gb, w'.heap[b]? = w.heap[b]?)
    (hF : ∀ k j b, g.ow b = .gc k j → g'.ow b = .gc k j ∧ g'.mrk b = g.mrk b ∧ w'.heap[b]? = w.heap[b]?) (h : HRel g w H) : HRel g' w' H := by
  refine ⟨by rw [hgb]; exact h.len, fun k cs hk => ?_, fun k es hk => ?_⟩
  · obtain ⟨b, h1, h2, h3⟩ := h.cells k cs hk
    refine ⟨b, by rw [hgb]; exact h1, BR_t hE (hb b (mem_of_getElem? h1)) (fun x hx => noLp1_cellDep S (h3 x hx)) (fun j _ b hb => hF k j b hb) h2, h3⟩
  · obtain ⟨b, ents, clk, h1, h2, h3⟩ := h.maps k es hk
    exact ⟨b, ents, clk, by rw [hgb]; exact h1, by rw [hb b (mem_of_getElem? h1)]; exact h2, MR_t hE h3⟩

theorem heap_alloc_old {w : World} {o : Obj} {b : Nat} (h : b < w.heap.size) : (w.alloc o).heap[b]? = w.heap[b]? := by
  show (w.heap.push o)[b]? = _
  rw [Array.getElem?_push, if_neg (Nat.ne_of_lt h)]
theorem heap_alloc_new (w : World) (o : Obj) : (w.alloc o).heap[w.heap.size]? = some o := by
  show (w.heap.push o)[w.heap.size]? = _
  rw [Array.getElem?_push, if_pos rfl]
theorem lt_of_heap {w : World} {b : Nat} {o : Obj} (h : w.heap[b]? = some o) : b < w.heap.size := by
  rcases Nat.lt_or_ge b w.heap.size with h1 | h1
  · exact h1
  · rw [Array.getElem?_eq_none h1] at h; cases h

theorem cell_alloc_old {w : World} {o : Obj} {b j : Nat} (h : b < w.heap.size) : (w.alloc o).cell? ⟨b, j, none⟩ = w.cell? ⟨b, j, none⟩ := by
  simp only [World.cell?, heap_alloc_old h]

/-- Behind a new block nothing that was is another. -/
theorem Ext_alloc {g : Gh} {w : World} {o : Obj} (hw : WF g w) (lb' : Nat → Option Nat) (gb' : List Nat) (mrk' : Nat → Nat) (ow' : Nat → Own)
    (hl : ∀ k b, lb' k = some b → (∃ k', g.lb k' = some b) ∨ b = w.heap.size) (hg : ∀ k b : Nat, g.gb[k]? = some b → gb'[k]? = some b) (hg' : ∀ b ∈ gb', b ∈ g.gb ∨ b = w.heap.size)
    (hm : ∀ b, b < w.heap.size → mrk' b = g.mrk b ∧ ow' b = g.ow b) (hro : g.ro = true → gb' = g.gb) : Ext g w ⟨lb', gb', mrk', ow', g.ro⟩ (w.alloc o) where
  size := by simp
  gb := hg
  mrk := fun b => by
    rcases Nat.lt_or_ge b w.heap.size with h | h
    · exact Nat.le_of_eq (hm b h).1.symm
    · have : g.mrk b = 0 := by
        rcases Nat.eq_zero_or_pos (g.mrk b) with h0 | h0
        · exact h0
        · obtain ⟨arr, e, fr, h1, _⟩ := hw.mrb b (Nat.pos_iff_ne_zero.1 h0)
          have := lt_of_heap h1
          omega
      rw [this]
      exact Nat.zero_le _
  cell := fun b j hj => cell_alloc_old (by
    obtain ⟨arr, e, fr, h1, _⟩ := hw.mrb b (by omega)
    exact lt_of_heap h1)
  shp := fun b arr e fr h => ⟨arr, by rw [heap_alloc_old (lt_of_heap h)]; exact h, rfl⟩
  keep := fun b hb _ _ ho => ⟨heap_alloc_old hb, (hm b hb).1, (hm b hb).2.trans ho⟩
  nlb := fun k b h => by
    rcases hl k b h with h | h
    · exact .inl h
    · exact .inr (by omega)
  ngb := fun b h => by
    rcases hg' b h with h | h
    · exact .inl h
    · exact .inr (by omega)
  os := rfl
  out := rfl
  tape := rfl
  roe := rfl
  rog := fun h => ⟨hro h, fun b hb => heap_alloc_old (hw.ltg b hb)⟩

theorem freshU (st st' : St) (h : st'.cons = st.cons ∧ st'.conG = st.conG ∧ st'.conL = st.conL) (x : AV) : fresh st' x = fresh st x := by
  obtain ⟨h1, h2, h3⟩ := h
  cases x with
  | sl sz n rows own =>
    simp only [fresh]
    have : usable st' own = usable st own := by cases own <;> simp [usable, h1, h2, h3]
    rw [this]
  | _ => rfl

/-- The temporaries, in a world that has grown. -/
theorem TR_t {S : Nat → Bool} {g g' : Gh} {w w' : World} {st st' : St} {x : AV} {v : Value} (hE : VExt S g w g' w') (hf : ∀ x, fresh st' x = fresh st x)
    (hF : ∀ o, cls o = true → ∀ b, g.ow b = o → g'.ow b = o ∧ g'.mrk b = g.mrk b ∧ w'.heap[b]? = w.heap[b]?) (hx : VR g w x v ∧ FL g w (fresh st x) v) (hd : x.depOk S = true) :
    VR g' w' x v ∧ FL g' w' (fresh st' x) v := by
  refine ⟨hx.1.mono hE hd, ?_⟩
  rw [hf]
  exact FL_t (fun hc b hb => hF _ hc b hb) hx.2

theorem rel_allocL {g : Gh} {st : St} {a : Act} {w : World} (hR : Rel g st a w) (d : Nat) {cs : List AV} {arr : Array Value} (e : TypeId) (fr : Nat × Nat := (0, 0)) (hfr : ∀ j, j < arr.size → ¬(fr.1 ≤ j ∧ j < fr.2) := by intro j _ h; simp at h) (hlen : cs.length ≤ arr.size)
    (hcs : ∀ (j : Nat) x, cs[j]? = some x → ∃ v, arr[j]? = some v ∧ VR g w x v ∧ x.isCell = true ∧ x.slOwn = .no) (hdep : ∀ x ∈ cs, x.depOk (fun k => !(k == d)) = true) {X : AV} {V : Value} (hX : ∀ g', g'.lb d = some w.heap.size → VR g' (w.alloc (.cells arr e fr)) X V) (hown : X.slOwn = .no) :
    Nx g w (St.set { killLp st d with L := upd (killLp st d).L d cs } d X) (a.put (some d) V) (w.alloc (.cells arr e fr)) := by
  have hw := hR.wf
  refine ⟨⟨fun k => if k = d then some w.heap.size else g.lb k, g.gb, g.mrk, g.ow, g.ro⟩, ?_, ?_⟩
  · refine Ext_alloc hw _ _ _ _ (fun k b h => ?_) (fun _ _ h => h) (fun _ h => .inl h) (fun _ _ => ⟨rfl, rfl⟩) (fun _ => rfl)
    by_cases hk : k = d
    · rw [if_pos hk] at h
      simp only [Option.some.injEq] at h
      exact .inr h.symm
    · rw [if_neg hk] at h
      exact .inl ⟨k, h⟩
  · have hE0 : Ext g w ⟨fun k => if k = d then some w.heap.size else g.lb k, g.gb, g.mrk, g.ow, g.ro⟩ (w.alloc (.cells arr e fr)) := by
      refine Ext_alloc hw _ _ _ _ (fun k b h => ?_) (fun _ _ h => h) (fun _ h => .inl h) (fun _ _ => ⟨rfl, rfl⟩) (fun _ => rfl)
      by_cases hk : k = d
      · rw [if_pos hk] at h
        simp only [Option.some.injEq] at h
        exact .inr h.symm
      · rw [if_neg hk] at h
        exact .inl ⟨k, h⟩
    have hE : VExt (fun k => !(k == d)) g w ⟨fun k => if k = d then some w.heap.size else g.lb k, g.gb, g.mrk, g.ow, g.ro⟩ (w.alloc (.cells arr e fr)) := hE0.vext (fun k b hk h => by
      simp only [Bool.not_eq_true', beq_eq_false_iff_ne, ne_eq] at hk
      simp only [if_neg hk]
      exact h)
    have hF : ∀ o, cls o = true → ∀ b, g.ow b = o → g.ow b = o ∧ g.mrk b = g.mrk b ∧ (w.alloc (.cells arr e fr)).heap[b]? = w.heap[b]? := fun o ho b hb =>
      ⟨hb, rfl, heap_alloc_old (hw.owlt b (by rw [hb]; rintro rfl; simp [cls] at ho))⟩
    have hkill : ∀ x : AV, (if x.depOk (fun k => !(k == d)) then x else AV.junk).depOk (fun k => !(k == d)) = true := by
      intro x
      split
      · assumption
      · rfl
    refine ⟨hR.df, ?_, ?_, ?_, ?_, ?_, hR.ro⟩
    · simp [St.set, upd_eq_set, killLp, Act.put, hR.sz]
    · intro i x hx
      simp only [St.set, upd_eq_set, killLp] at hx
      rw [List.getElem?_set] at hx
      simp only [Act.put]
      rw [Array.getElem?_setIfInBounds]
      by_cases hdi : d = i
      · subst hdi
        rw [if_pos rfl] at hx
        split at hx
        · rename_i hlt
          simp only [Option.some.injEq] at hx
          subst hx
          refine ⟨V, ?_, hX _ (by simp), FL_no (fresh_no _ hown)⟩
          simp at hlt
          simp [hR.sz, hlt]
        · simp at hx
      · rw [if_neg hdi] at hx
        rw [if_neg hdi]
        rw [List.getElem?_map] at hx
        cases hti : st.tm[i]? with
        | none => rw [hti] at hx; simp at hx
        | some y =>
          rw [hti] at hx
          simp only [Option.map_some, Option.some.injEq] at hx
          obtain ⟨v, h1, h2, h3⟩ := hR.tr i y hti
          refine ⟨v, h1, ?_⟩
          subst hx
          split
          · rename_i hok
            exact TR_t hE (fun x => freshU _ _ ⟨rfl, rfl, rfl⟩ x) hF ⟨h2, h3⟩ hok
          · exact ⟨.junk _, trivial⟩
    · intro k L hk hne
      simp only [St.set, upd_eq_set, killLp] at hk
      rw [List.getElem?_set] at hk
      by_cases hdk : d = k
      · subst hdk
        rw [if_pos rfl] at hk
        split at hk
        · simp only [Option.some.injEq] at hk
          subst hk
          refine ⟨w.heap.size, by simp, arr, e, fr, heap_alloc_new w _, hlen, hfr, fun j x hx => ?_⟩
          obtain ⟨v, h1, h2, h3, h4⟩ := hcs j x hx
          refine ⟨v, h1, h2.mono hE (hdep x (mem_of_getElem? hx)), ?_, h3, ?_⟩
          · cases x <;> first
              | trivial
              | (simp only [AV.slOwn] at h4; subst h4; exact .inl rfl)
          · cases x <;> first
              | rfl
              | (simp only [AV.slOwn] at h4; subst h4; rfl)
        · simp at hk
      · rw [if_neg hdk] at hk
        rw [List.getElem?_map] at hk
        cases hLk : st.L[k]? with
        | none => rw [hLk] at hk; simp at hk
        | some L0 =>
          rw [hLk] at hk
          simp only [Option.map_some, Option.some.injEq] at hk
          subst hk
          have hne0 : L0 ≠ [] := by rintro rfl; simp at hne
          obtain ⟨b, h1, h2⟩ := hR.lr k L0 hLk hne0
          refine ⟨b, by simp only; rw [if_neg (fun h => hdk h.symm)]; exact h1, ?_⟩
          obtain ⟨arr0, e0, fr0, q1, q2, q3, q4⟩ := h2
          refine ⟨arr0, e0, fr0, by rw [heap_alloc_old (lt_of_heap q1)]; exact q1, by simpa using q2, q3, fun j x hx => ?_⟩
          rw [List.getElem?_map] at hx
          cases hj : L0[j]? with
          | none => rw [hj] at hx; simp at hx
          | some y =>
            rw [hj] at hx
            simp only [Option.map_some, Option.some.injEq] at hx
            obtain ⟨v, r1, r2, r3, r4, r5⟩ := q4 j y hj
            refine ⟨v, r1, ?_⟩
            subst hx
            split
            · rename_i hok
              refine ⟨r2.mono hE hok, FL_t (fun hc b hb => ⟨hb, rfl, heap_alloc_old (hw.owlt b (by rw [hb]; intro h0; rw [h0] at hc; simp [cls] at hc))⟩) r3, r4, r5⟩
            · exact ⟨.junk _, trivial, rfl, rfl⟩
    · exact HRel_t hE rfl (fun b hb => heap_alloc_old (hw.ltg b hb)) (fun k j b hb => hF _ rfl b hb) hR.hr
    · refine ⟨?_, ?_, hw.nd, ?_, ?_, ?_, hw.mrg, ?_, ?_⟩
      · intro k k' b h1 h2
        simp only at h1 h2
        split at h1 <;> split at h2
        · omega
        · simp only [Option.some.injEq] at h1
          have := hw.ltl _ _ h2
          omega
        · simp only [Option.some.injEq] at h2
          have := hw.ltl _ _ h1
          omega
        · exact hw.inj k k' b h1 h2
      · intro k b h1
        simp only at h1
        split at h1
        · simp only [Option.some.injEq] at h1
          intro hb
          have := hw.ltg b hb
          omega
        · exact hw.lbgb k b h1
      · intro k b h1
        simp only at h1
        split at h1
        · simp only [Option.some.injEq] at h1
          simp
          omega
        · have := hw.ltl k b h1
          simp
          omega
      · intro b hb
        have := hw.ltg b hb
        simp
        omega
      · intro k b h1
        simp only at h1 ⊢
        split at h1
        · simp only [Option.some.injEq] at h1
          subst h1
          refine ⟨?_, ?_⟩
          · rcases Nat.eq_zero_or_pos (g.mrk w.heap.size) with h0 | h0
            · exact h0
            · obtain ⟨arr, e, fr, h1, _⟩ := hw.mrb _ (Nat.pos_iff_ne_zero.1 h0)
              have := lt_of_heap h1
              omega
          · by_cases h0 : g.ow w.heap.size = .no
            · exact h0
            · have := hw.owlt _ h0
              omega
        · exact hw.mrl k b h1
      · intro b hb
        obtain ⟨arr0, e0, fr0, q1, q2⟩ := hw.mrb b hb
        exact ⟨arr0, e0, fr0, by rw [heap_alloc_old (lt_of_heap q1)]; exact q1, q2⟩
      · intro b hb
        have := hw.owlt b hb
        simp
        omega

end Go.Ab
namespace Go.Ab

theorem splice_get {L cs : List AV} {o j : Nat} (h : o + cs.length ≤ L.length) : (splice L o cs)[j]? = if o ≤ j ∧ j < o + cs.length then cs[j - o]? else L[j]? := by
  have h1 : (L.take o).length = o := by rw [List.length_take]; omega
  have h2 : (L.take o ++ cs).length = o + cs.length := by rw [List.length_append, h1]
  unfold splice
  by_cases ha : j < o + cs.length
  · rw [List.getElem?_append_left (by rw [h2]; exact ha)]
    by_cases hb : o ≤ j
    · rw [if_pos ⟨hb, ha⟩, List.getElem?_append_right (by rw [h1]; exact hb), h1]
    · rw [if_neg (by omega), List.getElem?_append_left (by rw [h1]; omega), List.getElem?_take, if_pos (by omega)]
  · rw [if_neg (by omega), List.getElem?_append_right (by rw [h2]; omega), h2, List.getElem?_drop]
    congr 1
    omega

theorem splice_length {L cs : List AV} {o : Nat} (h : o + cs.length ≤ L.length) : (splice L o cs).length = L.length := by
  unfold splice
  rw [List.length_append, List.length_append, List.length_take, List.length_drop]
  omega

theorem BR_splice {S : Nat → Bool} {g g' : Gh} {w w' : World} {b : Nat} {loc : Nat → Own} {L cs : List AV} {o : Nat} {vs : List Value} {arr : Array Value} {e : TypeId} {fr : Nat × Nat}
    (hE : VExt S g w g' w') (hb : w.heap[b]? = some (.cells arr e fr)) (hl : o + cs.length ≤ L.length) (hvl : vs.length = cs.length)
    (hw' : ∃ arr', w'.heap[b]? = some (.cells arr' e fr) ∧ arr'.size = arr.size ∧ ∀ j, arr'[j]? = if o ≤ j ∧ j < o + vs.length then vs[j - o]? else arr[j]?)
    (hd : ∀ x ∈ L, x.depOk S = true) (hF : ∀ j, cls (loc j) = true → ∀ b, g.ow b = loc j → g'.ow b = loc j ∧ g'.mrk b = g.mrk b ∧ w'.heap[b]? = w.heap[b]?)
    (hn : ∀ (j : Nat) x, cs[j]? = some x → ∃ v, vs[j]? = some v ∧ VR g' w' x v ∧ FL g' w' (atLoc (loc (o + j)) x) v ∧ x.isCell = true ∧ okOwn x = true)
    (h : BR g w b loc L) : BR g' w' b loc (splice L o cs) := by
  obtain ⟨arr0, e0, fr0, h1, h2, h3, h4⟩ := h
  rw [hb] at h1
  cases h1
  obtain ⟨arr', q1, q2, q3⟩ := hw'
  refine ⟨arr', e, fr, q1, by rw [splice_length hl, q2]; exact h2, by rw [q2]; exact h3, fun j x hx => ?_⟩
  rw [splice_get hl] at hx
  rw [q3 j, hvl]
  split at hx
  · rename_i hj
    rw [if_pos hj]
    obtain ⟨v, r1, r2, r3, r4⟩ := hn (j - o) x hx
    rw [show o + (j - o) = j by omega] at r3
    exact ⟨v, r1, r2, r3, r4⟩
  · rename_i hj
    rw [if_neg hj]
    obtain ⟨v, r1, r2, r3, r4, r5⟩ := h4 j x hx
    refine ⟨v, r1, r2.mono hE (hd x (mem_of_getElem? hx)), FL_t ?_ r3, r4, r5⟩
    intro hc
    cases x with
    | sl sz n rows own =>
      cases own with
      | self => exact hF j hc
      | no => simp [atLoc, AV.slOwn, cls] at hc
      | _ => simp [okOwn] at r5
    | _ => simp [atLoc, AV.slOwn, cls] at hc

theorem solid_one {g : Gh} {w : World} {x : AV} {v : Value} (h : x.solid = true) (hx : VR g w x v) : v.oneCell' = true := by
  cases hx <;> first | rfl | simp [AV.solid] at h

theorem solid_isCell {x : AV} (h : x.solid = true) : x.isCell = true := by
  cases x <;> simp_all [AV.solid, AV.isCell]

/-- The class c stands for the cell from now on. -/
def rename (g : Gh) (c loc : Own) : Gh := { g with ow := fun b => if c = .no then g.ow b else if g.ow b = c then loc else g.ow b }

theorem strip_okOwn (x : AV) : okOwn x.strip = true := by cases x <;> rfl
theorem strip_own (x : AV) : x.strip.slOwn = .no := by cases x <;> rfl
theorem strip_atLoc (o : Own) (x : AV) : atLoc o x.strip = x.strip := by cases x <;> rfl

section
variable {g : Gh} {w : World}

/-- The cells that a value becomes. -/
theorem toCells_sound {x : AV} {v : Value} (hx : VR g w x v) (hf : FL g w x v) (hs : (toCells x).all AV.solid = true) (loc : Own) :
    (toCells x).length = v.cells.size ∧ (∀ u ∈ v.cells.toList, u.oneCell' = true) ∧
      ∀ (j : Nat) y, (toCells x)[j]? = some y → ∃ u, v.cells.toList[j]? = some u ∧ VR g w y u ∧ y.isCell = true ∧ okOwn y = true ∧ (y.slOwn = .self → j = 0 ∧ ∃ sz n rows c, x = .sl sz n rows (.tc c) ∧ y = .sl sz n rows .self ∧ u = v) := by
  cases hx with
  | agg cs vals val hsz hc hv hp =>
    have hcv : (Value.agg vals).cells = vals := rfl
    simp only [toCells] at hs ⊢
    rw [hcv]
    refine ⟨by simp [hsz], ?_, ?_⟩
    · intro u hu
      obtain ⟨j, hj⟩ := List.getElem?_of_mem hu
      have hj' : j < cs.length := by rw [← hsz]; simpa using lt_of_getElem? hj
      have hcj : cs[j]? = some cs[j] := List.getElem?_eq_getElem hj'
      have h1 := hc j _ hcj
      rw [Array.getElem?_toList, h1] at hj
      simp only [Option.some.injEq] at hj
      subst hj
      have : (cs[j].strip).solid = true := (List.all_eq_true.1 hs) _ (List.mem_map.2 ⟨_, mem_of_getElem? hcj, rfl⟩)
      exact solid_one this (VR_strip (hv j _ hcj))
    · intro j y hy
      rw [List.getElem?_map] at hy
      cases hcj : cs[j]? with
      | none => rw [hcj] at hy; simp at hy
      | some x =>
        rw [hcj] at hy
        simp only [Option.map_some, Option.some.injEq] at hy
        subst hy
        refine ⟨val j, by rw [Array.getElem?_toList]; exact hc j x hcj, VR_strip (hv j x hcj), ?_, strip_okOwn x, ?_⟩
        · have := hp x (mem_of_getElem? hcj)
          cases x <;> simp_all [AV.strip, AV.isCell]
        · intro h; rw [strip_own] at h; cases h
  | slnil sz own =>
    have hcv : (Value.slice none 0 0).cells = #[.slice none 0 0] := rfl
    rw [hcv]
    cases own <;> refine ⟨rfl, by simp [Value.oneCell'], fun j y hy => ?_⟩ <;> cases j <;> simp [toCells, AV.strip] at hy <;> subst hy
    case tc.zero => exact ⟨_, rfl, .slnil _ _, rfl, rfl, fun _ => ⟨rfl, _, _, _, _, rfl, rfl, rfl⟩⟩
    all_goals exact ⟨_, rfl, .slnil _ _, rfl, rfl, fun h => by cases h⟩
  | sl sz rows own b o cap val hcap hz hc hv hp hm =>
    have hcv : (Value.slice (some ⟨b, o, none⟩) rows.length cap).cells = #[.slice (some ⟨b, o, none⟩) rows.length cap] := rfl
    rw [hcv]
    cases own <;> refine ⟨rfl, by simp [Value.oneCell'], fun j y hy => ?_⟩ <;> cases j <;> simp [toCells, AV.strip] at hy <;> subst hy
    case tc.zero => exact ⟨_, rfl, .sl _ _ _ b o cap val hcap hz hc hv hp hm, rfl, rfl, fun _ => ⟨rfl, _, _, _, _, rfl, rfl, rfl⟩⟩
    all_goals exact ⟨_, rfl, .sl _ _ _ b o cap val hcap hz hc hv hp hm, rfl, rfl, fun h => by cases h⟩
  | tup => simp [toCells, AV.strip, AV.solid] at hs
  | und => simp [toCells, AV.strip, AV.solid] at hs
  | junk => simp [toCells, AV.strip, AV.solid] at hs
  | _ =>
    refine ⟨rfl, by simp [Value.cells, Value.oneCell'], fun j y hy => ?_⟩
    cases j with
    | succ j => simp [toCells] at hy
    | zero =>
      simp [toCells, AV.strip] at hy
      subst hy
      refine ⟨_, rfl, ?_, rfl, rfl, fun h => by cases h⟩
      first
        | (constructor; done)
        | (constructor <;> assumption)
end

theorem isCell_dep {x : AV} (h : x.isCell = true) : x.depOk (fun _ => true) = true := by
  cases x <;> simp_all [AV.isCell, AV.depOk, AV.cellDep]

theorem VR_dep {g : Gh} {w : World} {x : AV} {v : Value} (h : VR g w x v) : x.depOk (fun _ => true) = true := by
  induction h with
  | agg cs vals val hs hc hv hp ih =>
    simp only [AV.depOk, List.all_eq_true]
    intro x hx
    have := hp x hx
    cases x <;> simp_all [AV.isCell, AV.cellDep]
  | tup cs vals val hs hc hv hp ih =>
    simp only [AV.depOk, List.all_eq_true]
    intro x hx
    obtain ⟨j, hj⟩ := List.getElem?_of_mem hx
    have := ih j x hj
    have h2 := hp x hx
    cases x with
    | tup ws => exact absurd rfl (h2 ws)
    | _ => simp_all [AV.depOk, AV.cellDep]
  | _ => rfl

/-- A written block of the run's own. -/
theorem Ext_store {g : Gh} {w : World} (hw : WF g w) {b o : Nat} {vs : List Value} {arr : Array Value} {e : TypeId} {fr : Nat × Nat} (hb : w.heap[b]? = some (.cells arr e fr)) (hl : o + vs.length ≤ arr.size)
    (hmine : (∃ k, g.lb k = some b) ∨ b ∈ g.gb) (hmine' : g.ro = true → b ∉ g.gb) (c loc : Own) : Ext g w (rename g c loc) (w.setCells b o vs) := by
  obtain ⟨arr', q1, q2, q3⟩ := setCells_block b e fr vs o w arr hb hl
  obtain ⟨r1, r2, r3, r4⟩ := setCells_rest b vs o w
  have hm0 : g.mrk b = 0 := by
    rcases hmine with ⟨k, hk⟩ | hk
    · exact (hw.mrl k b hk).1
    · exact (hw.mrg b hk).1
  refine ⟨by rw [r4]; exact Nat.le_refl _, fun _ _ h => h, fun _ => Nat.le_refl _, ?_, ?_, ?_, fun k b h => .inl ⟨k, h⟩, fun _ h => .inl h, r1, r2, r3, rfl, fun hr => ⟨rfl, fun b' hb' => setCells_other b vs o w (by rintro rfl; exact hmine' hr hb')⟩⟩
  · intro b' j hj
    have : b' ≠ b := by rintro rfl; omega
    simp only [World.cell?, setCells_other b vs o w this]
  · intro b' arr0 e0 fr0 h
    by_cases hbb : b' = b
    · subst hbb
      rw [hb] at h
      cases h
      exact ⟨arr', q1, q2⟩
    · exact ⟨arr0, by rw [setCells_other b vs o w hbb]; exact h, rfl⟩
  · intro b' hb' hnl hng hno
    have : b' ≠ b := by
      rintro rfl
      rcases hmine with ⟨k, hk⟩ | hk
      · exact hnl k hk
      · exact hng hk
    refine ⟨setCells_other b vs o w this, rfl, ?_⟩
    simp only [rename, hno]
    split
    · rfl
    · rename_i hc
      rw [if_neg (fun h => hc h.symm)]

theorem rename_ow {g : Gh} {c loc o : Own} {b : Nat} (h : g.ow b = o) (hne : cls o = true) (hco : c ≠ o) : (rename g c loc).ow b = o := by
  simp only [rename]
  split
  · exact h
  · rw [if_neg (by rw [h]; exact fun h' => hco h'.symm)]
    exact h

theorem rename_loc {g : Gh} {c loc : Own} {b : Nat} (h : g.ow b = c) (hne : cls c = true) : (rename g c loc).ow b = loc := by
  simp only [rename]
  rw [if_neg (by rintro rfl; simp [cls] at hne), if_pos h]

theorem fresh_useUp (st : St) (n : Nat) (x : AV) : (fresh (useUp st (.tc n)) x).slOwn = .no ∨ ((fresh (useUp st (.tc n)) x) = fresh st x ∧ (fresh st x).slOwn ≠ .tc n) := by
  cases x with
  | sl sz nl rows own =>
    simp only [fresh]
    by_cases hu : usable (useUp st (.tc n)) own = true
    · rw [if_pos hu]
      right
      have hu2 : usable st own = true := by
        cases own <;> simp_all [usable, useUp]
      rw [if_pos hu2]
      refine ⟨rfl, ?_⟩
      rintro h
      simp only [AV.slOwn] at h
      subst h
      simp [usable, useUp] at hu
    · rw [if_neg hu]
      exact .inl rfl
  | _ => exact .inl rfl

theorem WF_store {g : Gh} {w w' : World} {c loc : Own} (hw : WF g w) (hsz : w'.heap.size = w.heap.size) (hcl : ∀ b, g.mrk b ≠ 0 → w'.heap[b]? = w.heap[b]?) (hloc : cls c = true → loc ≠ .no)
    : WF (rename g c loc) w' where
  inj := hw.inj
  lbgb := hw.lbgb
  nd := hw.nd
  ltl := fun k b h => by rw [hsz]; exact hw.ltl k b h
  ltg := fun b h => by rw [hsz]; exact hw.ltg b h
  mrl := fun k b h => by
    obtain ⟨h1, h2⟩ := hw.mrl k b h
    refine ⟨h1, ?_⟩
    simp only [rename, h2]
    split
    · rfl
    · rename_i hc
      rw [if_neg (fun h => hc h.symm)]
  mrg := fun b h => by
    obtain ⟨h1, h2⟩ := hw.mrg b h
    refine ⟨h1, ?_⟩
    simp only [rename, h2]
    split
    · rfl
    · rename_i hc
      rw [if_neg (fun h => hc h.symm)]
  mrb := fun b h => by
    obtain ⟨arr, e, fr, h1, h2⟩ := hw.mrb b h
    exact ⟨arr, e, fr, by rw [hcl b h]; exact h1, h2⟩
  owlt := fun b h => by
    rw [hsz]
    refine hw.owlt b (fun h0 => h ?_)
    simp only [rename, h0]
    split
    · rfl
    · rename_i hc
      rw [if_neg (fun h => hc h.symm)]


/-- The cells at a pointer of the run's own, ready to be written. -/
structure Own1 (g : Gh) (w : World) (b : Nat) (loc : Nat → Own) (L : List AV) : Prop where
  br : BR g w b loc L
  mine : (∃ k, g.lb k = some b) ∨ b ∈ g.gb
  rom : g.ro = true → b ∉ g.gb

theorem rel_storeCore {g : Gh} {st : St} {a : Act} {w : World} (hR : Rel g st a w) {b o : Nat} {loc : Nat → Own} {L cs : List AV} {vs : List Value} (hO : Own1 g w b loc L)
    (hloc : ∀ j, cls (loc j) = true ∧ ∀ n, loc j ≠ .tc n) (hl : o + cs.length ≤ L.length) (hvl : vs.length = cs.length) (hL : ∀ x ∈ L, x.isCell = true)
    {c : Own} (hc : c = .no ∨ ∃ n, c = .tc n)
    (hn : ∀ (j : Nat) x, cs[j]? = some x → ∃ v, vs[j]? = some v ∧ VR g w x v ∧ x.isCell = true ∧ okOwn x = true ∧
      (x.slOwn = .self → j = 0 ∧ ∃ sz nl rows, x = .sl sz nl rows .self ∧ cls c = true ∧ FLo g w c sz rows.length v)) :
    ∃ g', Ext g w g' (w.setCells b o vs) ∧ WF g' (w.setCells b o vs) ∧ g'.lb = g.lb ∧ g'.gb = g.gb ∧ g'.ro = g.ro ∧ BR g' (w.setCells b o vs) b loc (splice L o cs) ∧
      VExt (fun _ => true) g w g' (w.setCells b o vs) ∧ (∀ own, cls own = true → own ≠ c → ∀ b', g.ow b' = own → g'.ow b' = own ∧ g'.mrk b' = g.mrk b' ∧ (w.setCells b o vs).heap[b']? = w.heap[b']?) ∧
      (∀ b', b' ≠ b → (w.setCells b o vs).heap[b']? = w.heap[b']?) := by
  have hw := hR.wf
  obtain ⟨arr, e, fr, h1, h2, h3, h4⟩ := hO.br
  have hle : o + vs.length ≤ arr.size := by omega
  have hE := Ext_store hw h1 hle hO.mine hO.rom c (loc o)
  have hV : VExt (fun _ => true) g w (rename g c (loc o)) (w.setCells b o vs) := hE.vext (fun _ _ _ h => h)
  have hob : g.ow b = .no := by
    rcases hO.mine with ⟨k, hk⟩ | hk
    · exact (hw.mrl k b hk).2
    · exact (hw.mrg b hk).2
  have hmb : g.mrk b = 0 := by
    rcases hO.mine with ⟨k, hk⟩ | hk
    · exact (hw.mrl k b hk).1
    · exact (hw.mrg b hk).1
  have hF : ∀ own, cls own = true → own ≠ c → ∀ b', g.ow b' = own → (rename g c (loc o)).ow b' = own ∧ (rename g c (loc o)).mrk b' = g.mrk b' ∧ (w.setCells b o vs).heap[b']? = w.heap[b']? := by
    intro own ho hne b' hb'
    refine ⟨rename_ow hb' ho (fun h => hne h.symm), rfl, setCells_other b vs o w ?_⟩
    rintro rfl
    rw [hob] at hb'
    subst hb'
    simp [cls] at ho
  refine ⟨rename g c (loc o), hE, WF_store hw (setCells_rest b vs o w).2.2.2 (fun b' hb' => setCells_other b vs o w (by rintro rfl; exact hb' hmb)) (fun _ h => by have := (hloc o).1; rw [h] at this; simp [cls] at this), rfl, rfl, rfl, ?_, hV, hF,
    fun b' hb' => setCells_other b vs o w hb'⟩
  refine BR_splice hV h1 hl hvl (setCells_block b e fr vs o w arr h1 hle) (fun x hx => isCell_dep (hL x hx)) (fun j hj => hF (loc j) hj ?_) ?_ hO.br
  · rcases hc with rfl | ⟨n, rfl⟩
    · intro h; rw [h] at hj; simp [cls] at hj
    · exact (hloc j).2 n
  · intro j x hx
    obtain ⟨v, r1, r2, r3, r4, r5⟩ := hn j x hx
    refine ⟨v, r1, r2.mono hV (isCell_dep r3), ?_, r3, r4⟩
    cases x with
    | sl sz nl rows own =>
      cases own with
      | self =>
        obtain ⟨rfl, sz', nl', rows', hx', hcc, hfl⟩ := r5 rfl
        cases hx'
        simp only [atLoc, Nat.add_zero, FL]
        rcases hfl with h | h | h | ⟨b2, off, cap, arr2, e2, fr2, k1, k2, k3, k4, k5, k6⟩
        · rw [h] at hcc; simp [cls] at hcc
        · rw [h] at hcc; simp [cls] at hcc
        · exact .inr (.inr (.inl h))
        · refine .inr (.inr (.inr ⟨b2, off, cap, arr2, e2, fr2, k1, rename_loc k2 hcc, k3, ?_, k5, k6⟩))
          rw [setCells_other b vs o w]
          · exact k4
          · rintro rfl
            rw [hob] at k2
            rw [← k2] at hcc
            simp [cls] at hcc
      | no => exact .inl rfl
      | _ => simp [okOwn] at r4
    | _ => trivial

theorem useUp_fields (st : St) (c : Own) : (useUp st c).tm = st.tm ∧ (useUp st c).L = st.L ∧ (useUp st c).H = st.H := by
  cases c <;> exact ⟨rfl, rfl, rfl⟩
theorem useUp_ro (st : St) (c : Own) : (useUp st c).ro = st.ro := by cases c <;> rfl

theorem tcOf_cases (v : AV) : tcOf v = .no ∨ ∃ n, tcOf v = .tc n := by
  unfold tcOf
  split
  · exact .inr ⟨_, rfl⟩
  · exact .inl rfl

theorem LRel_cells {g : Gh} {w : World} {L : List (List AV)} {k : Nat} {cs : List AV} (h : LRel g w L) (hk : L[k]? = some cs) : ∀ x ∈ cs, x.isCell = true := by
  intro x hx
  by_cases hne : cs = []
  · subst hne; simp at hx
  · obtain ⟨b, _, arr, e, fr, _, _, _, h4⟩ := h k cs hk hne
    obtain ⟨j, hj⟩ := List.getElem?_of_mem hx
    obtain ⟨_, _, _, _, h5, _⟩ := h4 j x hj
    exact h5

theorem LRel_t {g g' : Gh} {w w' : World} {L : List (List AV)} (hE : VExt (fun _ => true) g w g' w') (hlb : g'.lb = g.lb) (hb : ∀ k b, g.lb k = some b → (∃ cs, L[k]? = some cs ∧ cs ≠ []) → w'.heap[b]? = w.heap[b]?)
    (hF : ∀ k j b, g.ow b = .lc k j → g'.ow b = .lc k j ∧ g'.mrk b = g.mrk b ∧ w'.heap[b]? = w.heap[b]?) (h : LRel g w L) : LRel g' w' L := by
  intro k cs hk hne
  obtain ⟨b, h1, h2⟩ := h k cs hk hne
  exact ⟨b, by rw [hlb]; exact h1, BR_t hE (hb k b h1 ⟨cs, hk, hne⟩) (fun x hx => isCell_dep (LRel_cells h hk x hx)) (fun j _ b hb => hF k j b hb) h2⟩

theorem splice_all {p : AV → Bool} {L cs : List AV} {o : Nat} (hL : ∀ x ∈ L, p x = true) (hc : ∀ x ∈ cs, p x = true) : ∀ x ∈ splice L o cs, p x = true := by
  intro x hx
  simp only [splice, List.mem_append] at hx
  rcases hx with (hx | hx) | hx
  · exact hL x (List.mem_of_mem_take hx)
  · exact hc x hx
  · exact hL x (List.mem_of_mem_drop hx)

/-- One global block of cells is another now. -/
theorem HRel_set {g g' : Gh} {w w' : World} {H : List GB} {k b : Nat} {cs : List AV} (hnd : g.gb.Nodup) (h : HRel g w H) (hb : g.gb[k]? = some b) (hE : VExt (fun _ => true) g w g' w') (hgb : g'.gb = g.gb)
    (hk : ∀ b', b' ≠ b → w'.heap[b']? = w.heap[b']?)
    (hF : ∀ k j b, g.ow b = .gc k j → g'.ow b = .gc k j ∧ g'.mrk b = g.mrk b ∧ w'.heap[b]? = w.heap[b]?)
    (hn : BR g' w' b (fun j => .gc k j) cs ∧ ∀ x ∈ cs, x.noLp1 = true) : HRel g' w' (H.set k (.cells cs)) := by
  have hother : ∀ (k' b' : Nat), g.gb[k']? = some b' → k ≠ k' → b' ≠ b := by
    rintro k' b' h1 h2 rfl
    exact h2 ((List.getElem?_inj (lt_of_getElem? hb) hnd).1 (hb.trans h1.symm))
  refine ⟨by rw [List.length_set, hgb]; exact h.len, fun k' cs' hk' => ?_, fun k' es hk' => ?_⟩
  · rw [List.getElem?_set] at hk'
    by_cases hkk : k = k'
    · subst hkk
      rw [if_pos rfl] at hk'
      split at hk'
      · simp only [Option.some.injEq, GB.cells.injEq] at hk'
        subst hk'
        exact ⟨b, by rw [hgb]; exact hb, hn⟩
      · simp at hk'
    · rw [if_neg hkk] at hk'
      obtain ⟨b', h1, h2, h3⟩ := h.cells k' cs' hk'
      exact ⟨b', by rw [hgb]; exact h1, BR_t hE (hk b' (hother k' b' h1 hkk)) (fun x hx => noLp1_cellDep _ (h3 x hx)) (fun j _ b hb => hF k' j b hb) h2, h3⟩
  · rw [List.getElem?_set] at hk'
    by_cases hkk : k = k'
    · subst hkk
      rw [if_pos rfl] at hk'
      split at hk' <;> simp at hk'
    · rw [if_neg hkk] at hk'
      obtain ⟨b', ents, clk, h1, h2, h3⟩ := h.maps k' es hk'
      exact ⟨b', ents, clk, by rw [hgb]; exact h1, by rw [hk b' (hother k' b' h1 hkk)]; exact h2, MR_t hE h3⟩

theorem tr_useUp {g g' : Gh} {st st' : St} {a : Act} {w w' : World} {c : Own} (hR : Rel g st a w) (hE : VExt (fun _ => true) g w g' w') (htm : st'.tm = st.tm)
    (hfr : ∀ x, fresh st' x = fresh (useUp st c) x) (hc : c = .no ∨ ∃ n, c = .tc n)
    (hF : ∀ own, cls own = true → own ≠ c → ∀ b', g.ow b' = own → g'.ow b' = own ∧ g'.mrk b' = g.mrk b' ∧ w'.heap[b']? = w.heap[b']?) :
    ∀ (i : Nat) x, st'.tm[i]? = some x → ∃ v, a.tmps[i]? = some v ∧ VR g' w' x v ∧ FL g' w' (fresh st' x) v := by
  intro i x hx
  rw [htm] at hx
  obtain ⟨v, h1, h2, h3⟩ := hR.tr i x hx
  refine ⟨v, h1, h2.mono hE (VR_dep h2), ?_⟩
  rw [hfr]
  rcases hc with rfl | ⟨n, rfl⟩
  · refine FL_t (fun hcl b hb => hF _ hcl ?_ b hb) h3
    intro h0; rw [h0] at hcl; simp [cls] at hcl
  · rcases fresh_useUp st n x with h | ⟨h, hne⟩
    · exact FL_no h
    · rw [h]
      exact FL_t (fun hcl b hb => hF _ hcl hne b hb) h3

section
variable {T : Tab} {P : Program} (hT : TabOK T P) {C : Nat → List AV → List GB → Option (AV × List GB)} {Lp : Nat → Nat → Code → St → Option (Ex × St)}
  {g : Gh} {w : World} {st st' : St} {a : Act}
include hT

theorem store_sound (hR : Rel g st a w) {t : Nat} {x y : AV} {v u : Value} (h : den C Lp (storeOp T st t x y) = some st') (hx : VR g w x v) (hy : VR g w y u) (hfy : FL g w (fresh st y) u) :
    ∃ w', (Instr.storeAt t v u).run P w = .ok () w' ∧ Nx g w st' a w' := by
  unfold storeOp at h
  simp only at h
  obtain ⟨h1, h⟩ := den_chk_some C Lp h
  simp only [Bool.and_eq_true, decide_eq_true_eq] at h1
  obtain ⟨⟨⟨hne, hlen⟩, hsol⟩, hpos⟩ := h1
  have hy' := VR_fresh st hy
  generalize fresh st y = z at *
  have hse := run_sizeOf hT hne w
  have hlen' : (toCells z).length = (T.ks t).length := hlen
  have hcc := tcOf_cases z
  have hstore : ∀ (b o : Nat) (arr : Array Value) (e : TypeId) (fr : Nat × Nat), w.heap[b]? = some (.cells arr e fr) → o + (toCells z).length ≤ arr.size → (∀ j, j < arr.size → ¬(fr.1 ≤ j ∧ j < fr.2)) →
      (Instr.storeAt t (.pointer (some ⟨b, o, none⟩)) u).run P w = .ok () (w.setCells b o u.cells.toList) := by
    intro b o arr e fr hb hl hfr
    obtain ⟨t1, t2, _⟩ := toCells_sound hy' hfy hsol .no
    have hst := run_storeCells_cells (P := P) b o u.cells.toList 0 w (fun j hj => by
        rw [cell?_of_block hb]
        have : o + 0 + j < arr.size := by
          have : u.cells.toList.length = u.cells.size := by simp
          omega
        simp
        omega) (fun j hj => by
        simp only [World.frozen?, hb]
        have : o + 0 + j < arr.size := by
          have : u.cells.toList.length = u.cells.size := by simp
          omega
        have := hfr _ this
        simp only [Bool.and_eq_false_iff, decide_eq_false_iff_not]
        omega) t2
    simp only [Nat.add_zero] at hst
    simp [Instr.storeAt, Instr.sureAddr, storeVar, hse, ← hlen', t1, hst]
  have hcells : ∀ (loc : Own), ∀ (j : Nat) x, (toCells z)[j]? = some x → ∃ v, u.cells.toList[j]? = some v ∧ VR g w x v ∧ x.isCell = true ∧ okOwn x = true ∧
      (x.slOwn = .self → j = 0 ∧ ∃ sz nl rows, x = .sl sz nl rows .self ∧ cls (tcOf z) = true ∧ FLo g w (tcOf z) sz rows.length v) := by
    intro loc j x hj
    obtain ⟨_, _, t3⟩ := toCells_sound hy' hfy hsol loc
    obtain ⟨v, q1, q2, q3, q4, q5⟩ := t3 j x hj
    refine ⟨v, q1, q2, q3, q4, fun hs => ?_⟩
    obtain ⟨hj0, sz, nl, rows, c, hz, hxx, huv⟩ := q5 hs
    refine ⟨hj0, sz, nl, rows, hxx, ?_⟩
    subst hz
    refine ⟨rfl, ?_⟩
    rw [huv]
    exact hfy
  have hvl : u.cells.toList.length = (toCells z).length := by
    obtain ⟨t1, _, _⟩ := toCells_sound hy' hfy hsol .no
    simp [t1]
  cases hx with
  | lp k o b hb =>
    simp only at h
    obtain ⟨h2, h⟩ := den_chk_some C Lp h
    simp only [decide_eq_true_eq] at h2
    simp only [den_ret, Option.some.injEq] at h
    rw [nthL_eq_getD] at h2 h
    cases hLk : st.L[k]? with
    | none =>
      have : st.L.getD k [] = [] := by simp [List.getD, hLk]
      rw [this] at h2
      simp only [List.length_nil] at h2
      omega
    | some L =>
      have e1 : st.L.getD k [] = L := by simp [List.getD, hLk]
      rw [e1] at h2 h
      have hneL : L ≠ [] := by rintro rfl; simp only [List.length_nil] at h2; omega
      obtain ⟨b', hb', hBR⟩ := hR.lr k L hLk hneL
      rw [hb] at hb'
      obtain rfl : b = b' := by simpa using hb'
      obtain ⟨arr, e, fr, r1, r2, r3, r4⟩ := hBR
      have hrun := hstore b o arr e fr r1 (by omega) r3
      obtain ⟨g', k1, k2, k3, k4, kro, k5, k6, k7, k8⟩ := rel_storeCore hR (loc := fun j => .lc k j) (cs := toCells z) ⟨⟨arr, e, fr, r1, r2, r3, r4⟩, .inl ⟨k, hb⟩, fun _ => hR.wf.lbgb k b hb⟩ (fun j => ⟨rfl, fun n h => by cases h⟩) h2 hvl (LRel_cells hR.lr hLk) hcc (hcells .no)
      refine ⟨_, hrun, g', k1, ?_⟩
      have hfields := useUp_fields { st with L := upd st.L k (splice L o (toCells z)) } (tcOf z)
      subst h
      refine ⟨hR.df, by rw [hfields.1]; exact hR.sz, ?_, ?_, ?_, k2, by rw [useUp_ro, kro]; exact hR.ro⟩
      · refine tr_useUp hR k6 hfields.1 (fun x => ?_) hcc k7
        refine freshU _ _ ?_ x
        rcases hcc with hc | ⟨n, hc⟩ <;> rw [hc] <;> exact ⟨rfl, rfl, rfl⟩
      · rw [hfields.2.1]
        intro k' cs' hk' hne'
        simp only [upd_eq_set] at hk'
        rw [List.getElem?_set] at hk'
        by_cases hkk : k = k'
        · subst hkk
          rw [if_pos rfl] at hk'
          split at hk'
          · simp only [Option.some.injEq] at hk'
            subst hk'
            exact ⟨b, by rw [k3]; exact hb, k5⟩
          · simp at hk'
        · rw [if_neg hkk] at hk'
          have := LRel_t (L := st.L.set k []) k6 k3 (fun k2 b2 hb2 ⟨cs2, h2, hn2⟩ => k8 b2 (by
            rintro rfl
            have := hR.wf.inj _ _ _ hb2 hb
            subst this
            rw [List.getElem?_set] at h2
            simp at h2
            exact hn2 (by first | exact h2.2 | exact h2.2.symm))) (fun k2 j b2 hb2 => k7 _ rfl (by
              rcases hcc with hc | ⟨n, hc⟩ <;> rw [hc] <;> simp) b2 hb2) (fun k2 cs2 h2 hn2 => hR.lr k2 cs2 (by
              rw [List.getElem?_set] at h2
              split at h2
              · split at h2
                · simp only [Option.some.injEq] at h2; exact absurd h2.symm hn2
                · simp at h2
              · exact h2) hn2)
          exact this k' cs' (by rw [List.getElem?_set, if_neg hkk]; exact hk') hne'
      · rw [hfields.2.2]
        exact HRel_t k6 k4 (fun b2 hb2 => k8 b2 (by rintro rfl; exact hR.wf.lbgb k b2 hb hb2)) (fun k2 j b2 hb2 => k7 _ rfl (by
              rcases hcc with hc | ⟨n, hc⟩ <;> rw [hc] <;> simp) b2 hb2) hR.hr
  | gp k o b hb =>
    simp only at h
    obtain ⟨hlp, h⟩ := den_chk_some C Lp h
    cases hHk : st.H[k]? with
    | none =>
      have : st.H.getD k (.map []) = .map [] := by simp [List.getD, hHk]
      rw [this] at h
      simp at h
    | some B =>
      have e1 : st.H.getD k (.map []) = B := by simp [List.getD, hHk]
      rw [e1] at h
      cases B with
      | map es => simp at h
      | cells L =>
        simp only at h
        obtain ⟨h2, h⟩ := den_chk_some C Lp h
        simp only [decide_eq_true_eq] at h2
        simp only [den_ret, Option.some.injEq] at h
        simp only [Bool.and_eq_true] at hlp
        obtain ⟨b', hb', hBR, hLp⟩ := hR.hr.cells k L hHk
        rw [hb] at hb'
        obtain rfl : b = b' := by simpa using hb'
        obtain ⟨arr, e, fr, r1, r2, r3, r4⟩ := hBR
        have hrun := hstore b o arr e fr r1 (by omega) r3
        have hmem : b ∈ g.gb := mem_of_getElem? hb
        obtain ⟨g', k1, k2, k3, k4, kro, k5, k6, k7, k8⟩ := rel_storeCore hR (loc := fun j => .gc k j) (cs := toCells z) ⟨⟨arr, e, fr, r1, r2, r3, r4⟩, .inr hmem, fun h => by rw [← hR.ro] at h; rw [h] at hlp; exact absurd hlp.2 (by simp)⟩ (fun j => ⟨rfl, fun n h => by cases h⟩) h2 hvl (fun x hx => noLp1_isCell (hLp x hx)) hcc (hcells .no)
        refine ⟨_, hrun, g', k1, ?_⟩
        have hfields := useUp_fields { st with H := st.H.set k (.cells (splice L o (toCells z))) } (tcOf z)
        subst h
        refine ⟨hR.df, by rw [hfields.1]; exact hR.sz, ?_, ?_, ?_, k2, by rw [useUp_ro, kro]; exact hR.ro⟩
        · refine tr_useUp hR k6 hfields.1 (fun x => ?_) hcc k7
          refine freshU _ _ ?_ x
          rcases hcc with hc | ⟨n, hc⟩ <;> rw [hc] <;> exact ⟨rfl, rfl, rfl⟩
        · rw [hfields.2.1]
          exact LRel_t k6 k3 (fun k9 b2 hb2 _ => k8 b2 (by rintro rfl; exact hR.wf.lbgb k9 _ hb2 hmem)) (fun k2 j b2 hb2 => k7 _ rfl (by
              rcases hcc with hc | ⟨n, hc⟩ <;> rw [hc] <;> simp) b2 hb2) hR.lr
        · rw [hfields.2.2]
          exact HRel_set hR.wf.nd hR.hr hb k6 k4 k8 (fun k2 j b2 hb2 => k7 _ rfl (by
              rcases hcc with hc | ⟨n, hc⟩ <;> rw [hc] <;> simp) b2 hb2) ⟨k5, fun x hx => splice_all hLp (fun x hx => List.all_eq_true.1 hlp.1 x hx) x hx⟩
  | _ => simp at h
end
end Go.Ab
