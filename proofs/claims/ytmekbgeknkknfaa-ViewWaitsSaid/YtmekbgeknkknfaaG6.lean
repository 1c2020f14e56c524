/- Conversions, maps; every operation. -/
import Derived.Test.YtmekbgeknkknfaaG5
import Derived.Laws.BytesString
set_option linter.unusedVariables false
set_option linter.unusedSimpArgs false
set_option linter.unusedSectionVars false
set_option linter.constructorNameAsVariable false
namespace Go.Ab

section
variable {T : Tab} {P : Program} {C : Nat → List AV → List GB → Option (AV × List GB)} {Lp : Nat → Nat → Code → St → Option (Ex × St)}
  {g : Gh} {w : World} {st st' : St} {a : Act}

theorem Nx.heap {w1 w2 : World} {a' : Act} (h : Nx g w st' a' w1) (hh : w2.heap = w1.heap) (h1 : w2.os = w1.os) (h2 : w2.output = w1.output) (h3 : w2.tape = w1.tape) : Nx g w st' a' w2 :=
  let ⟨g', q1, q2⟩ := h
  ⟨g', q1.trans (Grow.heap (g := g') hh h1 h2 h3).ext, Rel.heap (w := w1) (w' := w2) hh h1 h2 h3 q2⟩

theorem bytes_str : ∀ {rows : List (List AV)} {news : List Value}, areBytes rows = true → RowsR g w rows news → news.length = rows.length →
    ∃ ns : List Int, news = ns.map (Value.int .u8) ∧ bytesOfRows rows = ns.map fun n => UInt8.ofNat n.toNat
  | [], news, _, _, hl => ⟨[], by simpa using hl, rfl⟩
  | r :: rows, [], _, _, hl => by simp at hl
  | r :: rows, u :: news, hb, hr, hl => by
    simp only [areBytes, Bool.and_eq_true] at hb
    obtain ⟨hb1, hb2⟩ := hb
    split at hb1
    · rename_i n
      obtain ⟨v, h1, h2⟩ := hr 0 (.int .u8 n) (by simp)
      simp only [List.getElem?_cons_zero, Option.some.injEq] at h1
      subst h1
      cases h2
      obtain ⟨ns, q1, q2⟩ := bytes_str (rows := rows) (news := news) hb2 (fun k x hx => by
        have := hr (k + 1) x (by simpa using hx)
        simpa using this) (by simpa using hl)
      exact ⟨n :: ns, by rw [q1]; rfl, by simp only [bytesOfRows, List.map_cons]; rw [q2]⟩
    · simp at hb1

theorem fold_push (ns : List Int) : ∀ s : ByteArray, (ns.foldl (fun r n => r.push (UInt8.ofNat n.toNat)) s).data.toList = s.data.toList ++ ns.map fun n => UInt8.ofNat n.toNat := by
  induction ns with
  | nil => intro s; simp
  | cons n ns ih =>
    intro s
    rw [List.foldl_cons, ih, List.map_cons]
    simp [ByteArray.push]

theorem areBytes_rows : ∀ {rows : List (List AV)}, areBytes rows = true → ∀ r ∈ rows, r.length = 1 ∧ ∀ x ∈ r, x.pure1 = true
  | [], _, r, hr => by cases hr
  | r0 :: rows, h, r, hr => by
    simp only [areBytes, Bool.and_eq_true] at h
    obtain ⟨h1, h2⟩ := h
    rcases List.mem_cons.1 hr with rfl | hr
    · split at h1
      · exact ⟨rfl, fun x hx => by
          simp only [List.mem_singleton] at hx
          subst hx
          rfl⟩
      · simp at h1
    · exact areBytes_rows h2 r hr

theorem modify_push {α : Type} (l : Array α) (x : α) (f : α → α) : (l.push x).modify l.size f = l.push (f x) := by
  apply Array.ext_getElem?
  intro i
  rw [Array.getElem?_modify, Array.getElem?_push, Array.getElem?_push]
  by_cases hi : i = l.size
  · subst hi
    simp
  · rw [if_neg (fun h => hi h.symm), if_neg hi, if_neg hi]

variable (hT : TabOK T P)
include hT

theorem convert_bytes {src dst e : Nat} {y : AV} {u : Value} {rows : List (List AV)} (hs : P.underlying src = some (.slice e)) (hd : P.underlying dst = some .string) (he : T.sh e = .int .u8) (hR : Rel g st a w)
    (hy : VR g w y u) (hm : moreOf T st e y = some rows) (hb : areBytes rows = true) (hsl : ∃ b n c, u = .slice b n c ∧ n = rows.length ∧ (b = none → n = 0)) :
    ∃ s, (convert src dst u).run P w = .ok (.string s) w ∧ s.data.toList = bytesOfRows rows := by
  have hu8 : P.underlying e = some (.int .u8) := by
    have := hT.sh e
    rw [he] at this
    exact this
  have hsz : size T e = 1 := by
    have := hT.ks e
    unfold ksOk at this
    rw [he] at this
    simp [size, this]
  have hr := areBytes_rows hb
  obtain ⟨news, hsrc, hrows⟩ := src_sound (t2 := src) (.inl ⟨e, hs⟩) hy hR.lr hm (fun r h => by rw [hsz]; exact hr r h)
  rw [hsz] at hsrc
  have hnl := hsrc.newsLen
  rw [Nat.mul_one] at hnl
  obtain ⟨ns, q1, q2⟩ := bytes_str hb hrows hnl
  obtain ⟨b, n, c, rfl, hn, hnone⟩ := hsl
  rw [run_convert_bytes_string w src dst e b n c hs hu8 hd]
  cases b with
  | none =>
    refine ⟨.empty, by simp [Conv.bytesToString], ?_⟩
    have h0 : rows = [] := List.eq_nil_of_length_eq_zero (by rw [← hn]; exact hnone rfl)
    subst h0
    rfl
  | some b =>
    refine ⟨_, run_bytesToString w b n c ns ?_, ?_⟩
    · have := hsrc.cells
      rw [q1] at this
      simp only [Builtin.firstCells, Nat.mul_one] at this
      rw [hn]
      exact this
    · rw [fold_push, q2]
      rfl

theorem sh_underlying {t : Nat} (h : T.sh t ≠ .other) : ∃ d, P.underlying t = some d := by
  have := hT.sh t
  cases hs : T.sh t with
  | other => exact absurd hs h
  | struct fs => rw [hs] at this; obtain ⟨F, h1, _⟩ := this; exact ⟨_, h1⟩
  | fn => rw [hs] at this; obtain ⟨a, b, c, h1⟩ := this; exact ⟨_, h1⟩
  | iface => rw [hs] at this; obtain ⟨m, h1⟩ := this; exact ⟨_, h1⟩
  | _ => rw [hs] at this; exact ⟨_, this⟩

theorem stringToBytes_sound {fid d src dst e : Nat} {s : ByteArray} (hR : Rel g st a w) (hs : P.underlying src = some .string) (hd : P.underlying dst = some (.slice e)) (he : T.sh e = .int .u8)
    (h : den C Lp (thawed T fid d st (.sl 1 false (s.data.toList.map byteRow) (.tc d))) = some st') :
    ∃ u w', (convert src dst (.string s)).run P w = .ok u w' ∧ Nx g w st' (a.put (some d) u) w' := by
  have hu8 : P.underlying e = some (.int .u8) := by
    have := hT.sh e
    rw [he] at this
    exact this
  let arr : Array Value := (s.data.map fun b => Value.int .u8 b.toNat) ++ Array.replicate (grownCap w s.size 0 e - s.size) (.int .u8 0)
  have hge := grownCap_ge w s.size 0 e
  have harr : arr.size = grownCap w s.size 0 e := by
    simp only [arr, Array.size_append, Array.size_map, Array.size_replicate]
    have : s.data.size = s.size := rfl
    omega
  have hrun : (convert src dst (.string s)).run P w = .ok (.slice (some ⟨w.heap.size, 0, none⟩) s.size (grownCap w s.size 0 e)) ((w.drew.alloc (.cells arr e)).freeze ⟨w.heap.size, arr.size, none⟩ 1) := by
    have hsh : (w.drew.alloc (.cells arr e)).shape? w.heap.size = some (e, arr.size) := by
      have : (w.drew.alloc (.cells arr e)).heap[w.heap.size]? = some (.cells arr e (0, 0)) := heap_alloc_new w.drew _
      simp only [World.shape?, this]
    simp only [convert, Sem.run_bind, Go.run_underlying hs, Go.run_underlying hd, Result.andThen_ok, Go.run_underlying hu8, Conv.stringToBytes]
    simp [Question.forced, newRow, markStringish]
    simp only [arr, grownCap] at hsh ⊢
    simp [hsh]
  refine ⟨_, _, hrun, Nx_drew (w := w) (Nx.heap (w1 := w.drew.alloc (.cells arr e (arr.size, arr.size + 1))) ?_ ?_ ?_ ?_ ?_)⟩
  · have hlen : (s.data.toList.map byteRow).length = s.size := by rw [List.length_map, Array.length_toList]; rfl
    refine thawRow_sound (w := w.drew) (cap := grownCap w s.size 0 e) (fr := (arr.size, arr.size + 1)) (hfr := fun j h1 h2 => by simp only at h2; omega) (hR := Rel_drew hR) (h := h) (hn := hlen)
      (hz := fun r hr => ?_) (harr := by rw [harr, Nat.mul_one]) (hcap := hge) (hp := fun r hr x hx => ?_) (hcs := fun j x hj => ?_) (hfe := fun h => absurd h (by decide))
    · obtain ⟨b, _, rfl⟩ := List.mem_map.1 hr
      rfl
    · obtain ⟨b, _, rfl⟩ := List.mem_map.1 hr
      simp only [byteRow, List.mem_singleton] at hx
      subst hx
      rfl
    · rw [bytes_flat, List.getElem?_map] at hj
      cases hk : s.data.toList[j]? with
      | none => rw [hk] at hj; simp at hj
      | some b =>
        rw [hk] at hj
        simp only [Option.map_some, Option.some.injEq] at hj
        subst hj
        have hlt := lt_of_getElem? hk
        refine ⟨.int .u8 b.toNat, ?_, .int _ _⟩
        simp only [arr]
        rw [Array.getElem?_append_left (by simpa using hlt), Array.getElem?_map, ← Array.getElem?_toList, hk]
        rfl
  · simp only [World.freeze, if_neg (show ¬ (1 = 0) by decide)]
    exact modify_push w.heap _ _
  · simp only [World.freeze, if_neg (show ¬ (1 = 0) by decide)]; rfl
  · simp only [World.freeze, if_neg (show ¬ (1 = 0) by decide)]; rfl
  · simp only [World.freeze, if_neg (show ¬ (1 = 0) by decide)]; rfl

theorem convert_sound {fid src dst : Nat} {d : Option Nat} {x : AV} {v : Value} (hR : Rel g st a w) (hx : VR g w x v)
    (h : den C Lp ((convertOp T st src dst x).bind fun y => (match d, y with
      | some t, .sl sz n rows _ => thawed T fid t st (.sl sz n rows (.tc t))
      | none, .sl _ _ _ _ => .fail
      | d, y => .ret (st.put d y))) = some st') :
    ∃ u w', (convert src dst v).run P w = .ok u w' ∧ Nx g w st' (a.put d u) w' := by
  obtain ⟨y, h1, h⟩ := den_bind_some C Lp h
  have hs := hT.sh src
  have hd := hT.sh dst
  unfold convertOp at h1
  obtain ⟨hne, h1⟩ := den_chk_some C Lp h1
  simp only [decide_eq_true_eq] at hne
  obtain ⟨ds, hds⟩ := sh_underlying hT hne
  -- what is no row
  have plain : ∀ {u : Value}, (convert src dst v).run P w = .ok u w → VR g w y u → (∀ sz n rows o, y ≠ .sl sz n rows o) → ∃ u w', (convert src dst v).run P w = .ok u w' ∧ Nx g w st' (a.put d u) w' := by
    intro u hrun hy hno
    refine ⟨u, w, hrun, ?_⟩
    have : st' = st.put d y := by
      cases y <;> first
        | exact absurd rfl (hno _ _ _ _)
        | (cases d <;> simp only [den_ret, Option.some.injEq] at h <;> exact h.symm)
    subst this
    refine nx_put hR d hy (FL_no (fresh_no _ ?_))
    cases y <;> first
      | rfl
      | exact absurd rfl (hno _ _ _ _)
  cases hsd : T.sh dst with
  | int k =>
    rw [hsd] at h1 hd
    cases hx with
    | int k' n =>
      have h1' : den C Lp (R.ret (AV.int k (wrapF k n))) = some y := by
        cases hss : T.sh src <;> rw [hss] at h1 <;> exact h1
      simp only [den_ret, Option.some.injEq] at h1'
      subst h1'
      refine plain (u := .int k (k.wrap n)) ?_ (by rw [wrapF_eq]; exact .int _ _) (fun _ _ _ _ h => by cases h)
      simp only [convert, Sem.run_bind, Go.run_underlying hds, Go.run_underlying (show P.underlying dst = some (.int k) from hd), Result.andThen_ok]
      simp [Conv.intToInt]
    | _ => cases hss : T.sh src <;> rw [hss] at h1 <;> simp at h1
  | str =>
    rw [hsd] at h1 hd
    have hdst : P.underlying dst = some .string := hd
    have rows_case : ∀ {e : Nat} {rows : List (List AV)}, T.sh src = .slice e → T.sh e = .int .u8 → moreOf T st e x = some rows → den C Lp (chk (areBytes rows) (.ret (.str (bytesOfRows rows)))) = some y →
        (∃ b n c, v = .slice b n c ∧ n = rows.length ∧ (b = none → n = 0)) → ∃ u w', (convert src dst v).run P w = .ok u w' ∧ Nx g w st' (a.put d u) w' := by
      intro e rows hss he hm hy hsl
      obtain ⟨hb, hy⟩ := den_chk_some C Lp hy
      simp only [den_ret, Option.some.injEq] at hy
      subst hy
      rw [hss] at hs
      obtain ⟨s, q1, q2⟩ := convert_bytes hT (show P.underlying src = some (.slice e) from hs) hdst he hR hx hm hb hsl
      exact plain q1 (.str _ s q2) (fun _ _ _ _ h => by cases h)
    cases hx with
    | str l s hl =>
      have h1' : den C Lp (R.ret (AV.str l)) = some y := by
        cases hss : T.sh src <;> rw [hss] at h1 <;> exact h1
      simp only [den_ret, Option.some.injEq] at h1'
      subst h1'
      refine plain (u := .string s) ?_ (.str _ s hl) (fun _ _ _ _ h => by cases h)
      simp only [convert, Sem.run_bind, Go.run_underlying hds, Go.run_underlying hdst, Result.andThen_ok]
      simp
    | slnil sz own =>
      cases hss : T.sh src with
      | slice e =>
        rw [hss] at h1
        simp only at h1
        cases he : T.sh e with
        | int k =>
          rw [he] at h1
          cases k <;> simp only at h1 <;> first
            | exact rows_case hss he rfl h1 ⟨none, 0, 0, rfl, rfl, fun _ => rfl⟩
            | simp at h1
        | _ => rw [he] at h1; simp at h1
      | _ => rw [hss] at h1; simp at h1
    | sl sz rows own b o cap val hcap hz hc hv hp hm =>
      cases hss : T.sh src with
      | slice e =>
        rw [hss] at h1
        simp only at h1
        cases he : T.sh e with
        | int k =>
          rw [he] at h1
          cases k <;> simp only at h1 <;> first
            | exact rows_case hss he rfl h1 ⟨some _, _, _, rfl, rfl, fun h => by cases h⟩
            | simp at h1
        | _ => rw [he] at h1; simp at h1
      | _ => rw [hss] at h1; simp at h1
    | vs k off n sz b cap arr e0 fr hb hcap hbl hsz =>
      cases hss : T.sh src with
      | slice e =>
        rw [hss] at h1
        simp only at h1
        cases he : T.sh e with
        | int k' =>
          rw [he] at h1
          cases hm : moreOf T st e (.vs k off n sz) with
          | none => rw [hm] at h1; cases k' <;> simp at h1
          | some rows =>
            rw [hm] at h1
            have hrl : n = rows.length := by
              simp only [moreOf] at hm
              split at hm
              · simp only [Option.some.injEq] at hm
                rw [← hm, chunk_length]
              · simp at hm
            cases k' <;> simp only at h1 <;> first
              | exact rows_case hss he hm h1 ⟨some _, _, _, rfl, hrl, fun h => by cases h⟩
              | simp at h1
        | _ => rw [he] at h1; simp at h1
      | _ => rw [hss] at h1; simp at h1
    | _ => cases hss : T.sh src <;> rw [hss] at h1 <;> simp at h1
  | slice e =>
    rw [hsd] at h1 hd
    cases hss : T.sh src with
    | str =>
      rw [hss] at h1 hs
      cases hx with
      | str l s hl =>
        simp only at h1
        cases he : T.sh e with
        | int k =>
          rw [he] at h1
          cases k <;> simp only at h1 <;> first
            | (simp only [den_ret, Option.some.injEq] at h1
               subst h1
               subst hl
               cases d with
               | none => simp at h
               | some d => exact stringToBytes_sound hT hR hs hd he h)
            | simp at h1
        | _ => rw [he] at h1; simp at h1
      | _ => simp at h1
    | _ => rw [hss] at h1; cases hx <;> simp at h1
  | _ => rw [hsd] at h1; cases hss : T.sh src <;> rw [hss] at h1 <;> cases hx <;> simp at h1
end
end Go.Ab
namespace Go.Ab

section
variable {T : Tab} {P : Program} {C : Nat → List AV → List GB → Option (AV × List GB)} {Lp : Nat → Nat → Code → St → Option (Ex × St)}
  {g : Gh} {w : World} {st st' : St} {a : Act}

/-- Where a key stands. -/
def foundAt (key : List AV) : List (List AV × AV) → Option (Nat × List AV × AV)
  | [] => none
  | (k, v) :: es => if keyEq key k then some (0, k, v) else (foundAt key es).map fun (i, x) => (i + 1, x)

theorem foundAt_none {key : List AV} : ∀ {es : List (List AV × AV)}, foundAt key es = none → hasE key es = false ∧ (∀ z, getE key z es = z) ∧ delE key es = es
  | [], _ => ⟨rfl, fun _ => rfl, rfl⟩
  | (k, v) :: es, h => by
    simp only [foundAt] at h
    split at h
    · cases h
    · rename_i hk
      obtain ⟨h1, h2, h3⟩ := foundAt_none (es := es) (by simpa using h)
      refine ⟨by simp [hasE, hk, h1], fun z => by simp only [getE, if_neg hk, h2], by simp only [delE, if_neg hk, h3]⟩

theorem foundAt_some {key : List AV} : ∀ {es : List (List AV × AV)} {i : Nat} {k : List AV} {v : AV}, foundAt key es = some (i, k, v) →
    es[i]? = some (k, v) ∧ keyEq key k = true ∧ hasE key es = true ∧ (∀ z, getE key z es = v) ∧ (∀ u, setE key u es = es.set i (key, u)) ∧ delE key es = es.eraseIdx i
  | [], i, k, v, h => by simp [foundAt] at h
  | (k0, v0) :: es, i, k, v, h => by
    simp only [foundAt] at h
    split at h
    · rename_i hk
      cases h
      exact ⟨rfl, hk, by simp [hasE, hk], fun z => by simp only [getE, if_pos hk], fun u => by simp only [setE, if_pos hk]; rfl, by simp only [delE, if_pos hk]; rfl⟩
    · rename_i hk
      cases hf : foundAt key es with
      | none => rw [hf] at h; simp at h
      | some x =>
        obtain ⟨i', k', v'⟩ := x
        rw [hf] at h
        simp only [Option.map_some, Option.some.injEq, Prod.mk.injEq] at h
        obtain ⟨rfl, rfl, rfl⟩ := h
        obtain ⟨h1, h2, h3, h4, h5, h6⟩ := foundAt_some hf
        refine ⟨by simpa using h1, h2, by simp [hasE, h3], fun z => by simp only [getE, if_neg hk, h4], fun u => by simp only [setE, if_neg hk, h5]; rfl, by simp only [delE, if_neg hk, h6]; rfl⟩

theorem eqCells_key : ∀ {ks : List CK} {xs ys : List AV}, ks.all intKind = true → canonOks ks xs = true → canonOks ks ys = true → eqCells ks xs ys = keyEq xs ys
  | [], [], [], _, _, _ => rfl
  | [], _ :: _, _, _, h, _ => by simp [canonOks] at h
  | [], [], _ :: _, _, _, h => by simp [canonOks] at h
  | _ :: _, [], _, _, h, _ => by simp [canonOks] at h
  | _ :: _, _ :: _, [], _, _, h => by simp [canonOks] at h
  | k :: ks, x :: xs, y :: ys, hk, hx, hy => by
    simp only [canonOks, Bool.and_eq_true, List.all_cons] at hk hx hy
    simp only [eqCells, keyEq, eqCells_key hk.2 hx.2 hy.2]
    cases k <;> simp [intKind] at hk
    rfl

theorem canon_keyOk : ∀ {ks : List CK} {xs : List AV}, ks.all intKind = true → canonOks ks xs = true → keyOk xs = true
  | [], [], _, _ => rfl
  | [], _ :: _, _, h => by simp [canonOks] at h
  | _ :: _, [], _, h => by simp [canonOks] at h
  | k :: ks, x :: xs, hk, hx => by
    simp only [canonOks, Bool.and_eq_true, List.all_cons] at hk hx
    have := canon_keyOk hk.2 hx.2
    unfold keyOk at this ⊢
    rw [List.all_cons, this, Bool.and_true]
    cases k <;> simp [intKind] at hk
    cases x <;> simp_all [canonOk, AV.isInt]

theorem keyEq_eq : ∀ {ks : List CK} {xs ys : List AV}, ks.all intKind = true → canonOks ks xs = true → canonOks ks ys = true → keyEq xs ys = true → xs = ys
  | [], [], [], _, _, _, _ => rfl
  | [], _ :: _, _, _, h, _, _ => by simp [canonOks] at h
  | [], [], _ :: _, _, _, h, _ => by simp [canonOks] at h
  | _ :: _, [], _, _, h, _, _ => by simp [canonOks] at h
  | _ :: _, _ :: _, [], _, _, h, _ => by simp [canonOks] at h
  | k :: ks, x :: xs, y :: ys, hk, hx, hy, he => by
    simp only [canonOks, Bool.and_eq_true, List.all_cons, keyEq] at hk hx hy he
    rw [keyEq_eq hk.2 hx.2 hy.2 he.2]
    congr 1
    cases k <;> simp [intKind] at hk
    cases x <;> cases y <;> simp_all [canonOk, AV.isInt, AV.intOf]

theorem keyType_eqKind {ks : List CK} (h : ks.all intKind = true) : ks.all eqKind = true := by
  rw [List.all_eq_true] at h ⊢
  intro k hk
  have := h k hk
  cases k <;> simp_all [intKind, eqKind]

/-- A key as a value: the integers of its cells. -/
theorem key_val {g : Gh} {w : World} {cs : List AV} {v : Value} (hv : VR g w (.agg cs) v) (hk : keyOk cs = true) : ∃ vals : Array Value, v = .agg vals ∧ vals.toList = cs.map fun x => match x with | .int k n => Value.int k n | _ => undef := by
  cases hv with
  | agg _ vals val hs hc hval hp =>
    refine ⟨vals, rfl, ?_⟩
    apply List.ext_getElem?
    intro i
    rw [List.getElem?_map, Array.getElem?_toList]
    cases hi : cs[i]? with
    | none =>
      rw [Array.getElem?_eq_none]
      · rfl
      · rw [hs]
        exact List.getElem?_eq_none_iff.1 hi
    | some x =>
      rw [hc i x hi]
      have h2 := (List.all_eq_true.1 hk) x (mem_of_getElem? hi)
      have h3 : ∃ k n, x = .int k n := by
        cases x <;> first
          | exact ⟨_, _, rfl⟩
          | simp at h2
      obtain ⟨k, n, rfl⟩ := h3
      have h4 : val i = .int k n := by
        have h4 := hval i _ hi
        generalize val i = u at h4
        cases h4
        rfl
      rw [h4]
      rfl

theorem sameBits_key {n : Nat} {l : List AV} (h : keyOk l = true) {a b : Array Value} (ha : a.toList = l.map fun x => match x with | .int k n => Value.int k n | _ => undef) (hb : b.toList = l.map fun x => match x with | .int k n => Value.int k n | _ => undef) :
    Instr.sameBits (n + 1) (.agg a) (.agg b) = true := by
  have hab : a = b := Array.ext' (ha.trans hb.symm)
  subst hab
  simp only [Instr.sameBits, BEq.rfl, Bool.true_and, ha]
  rw [List.all_eq_true]
  rintro ⟨x, y⟩ hxy
  obtain ⟨i, hi⟩ := List.getElem?_of_mem hxy
  rw [List.getElem?_zip_eq_some] at hi
  obtain ⟨h1, h2⟩ := hi
  rw [h1] at h2
  cases h2
  rw [List.getElem?_map] at h1
  cases hli : l[i]? with
  | none => rw [hli] at h1; simp at h1
  | some z =>
    rw [hli] at h1
    simp only [Option.map_some, Option.some.injEq] at h1
    have h3 := (List.all_eq_true.1 h) z (mem_of_getElem? hli)
    cases z <;> simp_all
    subst h1
    cases n <;> simp [Instr.sameBits]

/-- One global map is another now. -/
theorem rel_setMap (hro : st.ro = false) {k b : Nat} {es es' : List (List AV × AV)} {ents ents' : Array MapEntry} {clk clk' : Nat} (hR : Rel g st a w) (hk : st.H[k]? = some (.map es)) (hb : g.gb[k]? = some b) (hbl : w.heap[b]? = some (.map ents clk)) (hM : MR g w es' ents') :
    Nx g w { st with H := st.H.set k (.map es') } a { w with heap := w.heap.setIfInBounds b (.map ents' clk') } := by
  have hw := hR.wf
  have hlt := lt_of_heap hbl
  have hmem : b ∈ g.gb := mem_of_getElem? hb
  have hoth : ∀ b', b' ≠ b → ({ w with heap := w.heap.setIfInBounds b (.map ents' clk') } : World).heap[b']? = w.heap[b']? := fun b' hb' => by
    simp only [Array.getElem?_setIfInBounds, if_neg (Ne.symm hb')]
  have hself : ({ w with heap := w.heap.setIfInBounds b (.map ents' clk') } : World).heap[b]? = some (.map ents' clk') := by simp [hlt]
  have hsz : ({ w with heap := w.heap.setIfInBounds b (.map ents' clk') } : World).heap.size = w.heap.size := by simp
  have h1 : ({ w with heap := w.heap.setIfInBounds b (.map ents' clk') } : World).os = w.os := rfl
  have h2 : ({ w with heap := w.heap.setIfInBounds b (.map ents' clk') } : World).output = w.output := rfl
  have h3 : ({ w with heap := w.heap.setIfInBounds b (.map ents' clk') } : World).tape = w.tape := rfl
  generalize ({ w with heap := w.heap.setIfInBounds b (.map ents' clk') } : World) = W at *
  have hm0 := (hw.mrg b hmem).1
  have hE : Ext g w g W := by
    refine ⟨by rw [hsz]; exact Nat.le_refl _, fun _ _ h => h, fun _ => Nat.le_refl _, fun b' j hj => ?_, fun b' arr e fr h => ?_, fun b' _ _ hg ho => ?_, fun k b h => .inl ⟨k, h⟩, fun _ h => .inl h, h1, h2, h3, rfl, fun h => by rw [← hR.ro, hro] at h; cases h⟩
    · have : b' ≠ b := by rintro rfl; omega
      simp only [World.cell?, hoth b' this]
    · have : b' ≠ b := by rintro rfl; rw [hbl] at h; cases h
      exact ⟨arr, by rw [hoth b' this]; exact h, rfl⟩
    · have : b' ≠ b := by rintro rfl; exact hg hmem
      exact ⟨hoth b' this, rfl, ho⟩
  have hV : VExt (fun _ => true) g w g W := hE.vext (fun _ _ _ h => h)
  have hF : ∀ o, cls o = true → ∀ b', g.ow b' = o → g.ow b' = o ∧ g.mrk b' = g.mrk b' ∧ W.heap[b']? = w.heap[b']? := fun o ho b' hb' => by
    refine ⟨hb', rfl, hoth b' ?_⟩
    rintro rfl
    rw [(hw.mrg b' hmem).2] at hb'
    subst hb'
    simp [cls] at ho
  refine ⟨g, hE, hR.df, hR.sz, fun i x hx => ?_, ?_, ⟨by simp only [List.length_set]; exact hR.hr.len, fun k' cs hk' => ?_, fun k' es2 hk' => ?_⟩, ?_, hR.ro⟩
  · obtain ⟨v, q1, q2, q3⟩ := hR.tr i x hx
    exact ⟨v, q1, TR_t (st' := { st with H := st.H.set k (.map es') }) hV (fun x => freshU _ _ ⟨rfl, rfl, rfl⟩ x) hF ⟨q2, q3⟩ (VR_dep q2)⟩
  · exact LRel_t hV rfl (fun k' b' hb' _ => hoth b' (by rintro rfl; exact hw.lbgb k' _ hb' hmem)) (fun k' j b' hb' => hF _ rfl b' hb') hR.lr
  · simp only [List.getElem?_set] at hk'
    by_cases hkk : k = k'
    · subst hkk
      rw [if_pos rfl] at hk'
      split at hk' <;> simp at hk'
    · rw [if_neg hkk] at hk'
      obtain ⟨b', q1, q2, q3⟩ := hR.hr.cells k' cs hk'
      refine ⟨b', q1, BR_t hV (hoth b' ?_) (fun x hx => noLp1_cellDep _ (q3 x hx)) (fun j hj b hb => hF _ hj b hb) q2, q3⟩
      rintro rfl
      exact hkk ((List.getElem?_inj (lt_of_getElem? hb) hw.nd).1 (hb.trans q1.symm))
  · simp only [List.getElem?_set] at hk'
    by_cases hkk : k = k'
    · subst hkk
      rw [if_pos rfl] at hk'
      split at hk'
      · simp only [Option.some.injEq, GB.map.injEq] at hk'
        subst hk'
        exact ⟨b, ents', clk', hb, hself, MR_t hV hM⟩
      · simp at hk'
    · rw [if_neg hkk] at hk'
      obtain ⟨b', ents0, clk0, q1, q2, q3⟩ := hR.hr.maps k' es2 hk'
      refine ⟨b', ents0, clk0, q1, ?_, MR_t hV q3⟩
      rw [hoth b' ?_]
      · exact q2
      · rintro rfl
        exact hkk ((List.getElem?_inj (lt_of_getElem? hb) hw.nd).1 (hb.trans q1.symm))
  · refine ⟨hw.inj, hw.lbgb, hw.nd, fun k b h => by rw [hsz]; exact hw.ltl k b h, fun b h => by rw [hsz]; exact hw.ltg b h, hw.mrl, hw.mrg, fun b' hb' => ?_, fun b' hb' => by rw [hsz]; exact hw.owlt b' hb'⟩
    have : b' ≠ b := by rintro rfl; exact hb' hm0
    rw [hoth b' this]
    exact hw.mrb b' hb'

theorem mapAt_sound {m : AV} {k : Nat} {es : List (List AV × AV)} {v : Value} (h : den C Lp (mapAt st m) = some (k, es)) (hm : VR g w m v) (hH : HRel g w st.H) :
    ∃ b ents clk, v = .map (some b) ∧ st.H[k]? = some (.map es) ∧ g.gb[k]? = some b ∧ w.heap[b]? = some (.map ents clk) ∧ MR g w es ents := by
  unfold mapAt at h
  cases hm with
  | mp k' b hb =>
    simp only at h
    cases hHk : st.H.getD k' (.cells []) with
    | cells cs => rw [hHk] at h; simp at h
    | map es' =>
      rw [hHk] at h
      simp only [den_ret, Option.some.injEq, Prod.mk.injEq] at h
      obtain ⟨rfl, rfl⟩ := h
      have hget := map_get hHk
      obtain ⟨b', ents, clk, q1, q2, q3⟩ := hH.maps _ _ hget
      rw [hb] at q1
      obtain rfl : b = b' := by simpa using q1
      exact ⟨b, ents, clk, rfl, hget, hb, q2, q3⟩
  | _ => simp at h

variable (hT : TabOK T P)
include hT

omit hT in
theorem sum_take {fs : List (Nat × Nat)} {f : Nat × Nat → Nat} : ∀ {i : Nat} {x : Nat × Nat}, fs[i]? = some x → ((fs.take i).map f).sum + f x ≤ (fs.map f).sum := by
  induction fs with
  | nil => intro i x h; simp at h
  | cons y ys ih =>
    intro i x h
    cases i with
    | zero =>
      simp only [List.getElem?_cons_zero, Option.some.injEq] at h
      subst h
      simp
    | succ i =>
      have := ih (i := i) (x := x) (by simpa using h)
      simp only [List.take_succ_cons, List.map_cons, List.sum_cons]
      omega

theorem checkKey_sound {kt : Nat} {cs : List AV} {v : Value} (hkt : keyType T kt = true) (hc : canonOks (T.ks kt) cs = true) (hv : VR g w (.agg cs) v) (e : Bool) : (Instr.checkKey e 10000 kt v).run P w = .ok () w := by
  unfold keyType at hkt
  simp only [Bool.and_eq_true] at hkt
  obtain ⟨hfs, hints⟩ := hkt
  have hs := hT.sh kt
  have hk := hT.ks kt
  unfold ksOk at hk
  cases hsh : T.sh kt with
  | struct fs =>
    rw [hsh] at hfs hs hk
    obtain ⟨F, hF, hFfs, hnames⟩ := hs
    simp only [List.all_eq_true] at hfs
    cases hv with
    | agg _ vals val hsz hcv hval hp =>
      have hlen := canonOks_length hc
      have hlen2 : cs.length = (fs.map fun f => (T.ks f.2).length).sum := by
        rw [hlen, hk.1, List.length_flatten, List.map_map]
        rfl
      have hfield : ∀ f ∈ F.toList, ∃ u k, (part f.type vals f.offset).run P w = .ok u w ∧ P.underlying f.type = some (.int k) := by
        intro f hf
        obtain ⟨i, hi⟩ := List.getElem?_of_mem hf
        have hfi : fs[i]? = some (f.offset, f.type) := by rw [← hFfs, List.getElem?_map, hi]; rfl
        obtain ⟨ho, hne, _⟩ := hk.2 i f.offset f.type hfi
        have h1 := hfs (f.offset, f.type) (mem_of_getElem? hfi)
        simp only at h1
        have hu := hT.sh f.type
        have hkf := hT.ks f.type
        unfold ksOk at hkf
        cases hshf : T.sh f.type with
        | int k =>
          rw [hshf] at hu hkf
          have hl1 : (T.ks f.type).length = 1 := by rw [hkf]; rfl
          have hbound := sum_take (f := fun f => (T.ks f.2).length) hfi
          obtain ⟨u, q1, _⟩ := part_VRt hT hne hsz hcv hval hp (o := f.offset) (.inr ⟨hl1, by rw [hlen2, ho]; exact hbound⟩)
          exact ⟨u, k, q1, hu⟩
        | _ => rw [hshf] at h1; simp at h1
      have hloop : ∀ (l : List Field), (∀ f ∈ l, f ∈ F.toList) → (forIn l PUnit.unit (fun f (_ : PUnit) => (if f.name ≠ "_" then do Instr.checkKey e 9999 f.type (← part f.type vals f.offset); pure (ForInStep.yield PUnit.unit) else pure (ForInStep.yield PUnit.unit) : Sem (ForInStep PUnit)))).run P w = .ok PUnit.unit w := by
        intro l
        induction l with
        | nil => intro _; simp
        | cons f l ih =>
          intro hl
          obtain ⟨u, k, q1, q2⟩ := hfield f (hl f (by simp))
          have hck : (Instr.checkKey e 9999 f.type u).run P w = .ok () w := by
            unfold Instr.checkKey
            simp only [Sem.run_bind, Go.run_underlying q2, Result.andThen_ok]
            cases u <;> rfl
          rw [List.forIn_cons, Sem.run_bind, if_pos (hnames f (hl f (by simp)))]
          simp only [Sem.run_bind, q1, Result.andThen_ok, hck, Sem.run_pure]
          exact ih fun f hf => hl f (by simp [hf])
      unfold Instr.checkKey
      simp only [Sem.run_bind, Go.run_underlying hF, Result.andThen_ok]
      rw [← Array.forIn_toList]
      have := hloop F.toList fun _ h => h
      simp only [Sem.run_bind, this, Result.andThen_ok, Sem.run_pure]
  | _ => rw [hsh] at hfs; simp at hfs

theorem equalKey {kt : Nat} {cs ds : List AV} {v u : Value} (hkt : keyType T kt = true) (hc : canonOks (T.ks kt) cs = true) (hd : canonOks (T.ks kt) ds = true) (hv : VR g w (.agg cs) v) (hu : VR g w (.agg ds) u) :
    (Op.equal kt v u).run P w = .ok (keyEq cs ds) w := by
  unfold keyType at hkt
  simp only [Bool.and_eq_true] at hkt
  obtain ⟨hfs, hints⟩ := hkt
  have h : den (fun _ _ _ => none) (fun _ _ _ _ => none) (equalOp T kt (.agg cs) (.agg ds)) = some (keyEq cs ds) := by
    unfold equalOp
    cases hsh : T.sh kt with
    | struct fs =>
      simp only [den_chk, keyType_eqKind hints, hc, hd, Bool.and_self, cond_true, den_ret, eqCells_key hints hc hd]
    | _ => rw [hsh] at hfs; simp at hfs
  exact equal_sound hT h hv hu

theorem findAsking_sound {kt : Nat} {cs : List AV} {v : Value} (hkt : keyType T kt = true) (hc : canonOks (T.ks kt) cs = true) (hv : VR g w (.agg cs) v) :
    ∀ {es : List (List AV × AV)} {ents : List MapEntry} (n : Nat), es.all (fun p => canonOks (T.ks kt) p.1) = true → ents.length = es.length →
      (∀ (i : Nat) (k : List AV) (x : AV), es[i]? = some (k, x) → ∃ en, ents[i]? = some en ∧ VR g w (.agg k) en.key) →
      (Instr.findAsking kt v ents n).run P w = .ok ((foundAt cs es).bind fun p => (ents[p.1]?).map fun en => (n + p.1, en.val)) w
  | [], ents, n, _, hl, _ => by
    have : ents = [] := by simpa using hl
    subst this
    simp [Instr.findAsking, foundAt]
  | (k, x) :: es, [], n, _, hl, _ => by simp at hl
  | (k, x) :: es, en :: ents, n, hall, hl, hM => by
    simp only [List.all_cons, Bool.and_eq_true] at hall
    obtain ⟨en', h1, h2⟩ := hM 0 k x rfl
    simp only [List.getElem?_cons_zero, Option.some.injEq] at h1
    subst h1
    have he := equalKey hT hkt hc hall.1 hv h2
    simp only [Instr.findAsking, Sem.run_bind, he, Result.andThen_ok, foundAt]
    by_cases hk : keyEq cs k = true
    · rw [if_pos hk, if_pos hk]
      simp
    · rw [if_neg hk, if_neg hk, findAsking_sound hkt hc hv (n + 1) hall.2 (by simpa using hl) (fun i k x hi => by
        have := hM (i + 1) k x (by simpa using hi)
        simpa using this)]
      cases foundAt cs es with
      | none => rfl
      | some p =>
        simp only [Option.bind_some, Option.map_some, List.getElem?_cons_succ]
        congr 2
        funext en
        congr 1
        omega

theorem findKey_sound {kt : Nat} {cs : List AV} {v : Value} {es : List (List AV × AV)} {ents : Array MapEntry} (hkt : keyType T kt = true) (hc : canonOks (T.ks kt) cs = true) (hv : VR g w (.agg cs) v)
    (hall : es.all (fun p => canonOks (T.ks kt) p.1) = true) (hM : MR g w es ents) :
    (Instr.findKey kt v ents.toList).run P w = .ok ((foundAt cs es).bind fun p => (ents[p.1]?).map fun en => (p.1, en.val)) w := by
  have hfa := findAsking_sound hT hkt hc hv (ents := ents.toList) 0 hall (by simpa using hM.1) (fun i k x hi => by
    obtain ⟨en, h1, h2, _⟩ := hM.2 i k x hi
    exact ⟨en, by rw [Array.getElem?_toList]; exact h1, h2⟩)
  simp only [Nat.zero_add, Array.getElem?_toList] at hfa
  have hkt' := hkt
  unfold keyType at hkt'
  simp only [Bool.and_eq_true] at hkt'
  have hs := hT.sh kt
  cases hsh : T.sh kt with
  | struct fs =>
    rw [hsh] at hs
    obtain ⟨F, hF, _⟩ := hs
    unfold Instr.findKey
    simp only [Sem.run_bind, Go.run_underlying hF, Result.andThen_ok]
    cases hes : es with
    | nil =>
      have : ents.toList = [] := List.eq_nil_of_length_eq_zero (by simpa [hes] using hM.1)
      rw [this]
      simp [Instr.findNow, foundAt]
    | cons p es' =>
      cases hents : ents.toList with
      | nil => have := hM.1; rw [hes] at this; simp [← Array.length_toList, hents] at this
      | cons en ents' =>
        have hnow : Instr.findNow (.struct F) v (en :: ents') 0 = none := by
          simp [Instr.findNow, Instr.sameNow]
        rw [hnow]
        simp only
        rw [← hents, ← hes]
        exact hfa
  | _ => rw [hsh] at hkt'; simp at hkt'
end
end Go.Ab
namespace Go.Ab

section
variable {T : Tab} {P : Program} {C : Nat → List AV → List GB → Option (AV × List GB)} {Lp : Nat → Nat → Code → St → Option (Ex × St)}
  {g : Gh} {w : World} {st st' : St} {a : Act}

theorem canon_own {k : CK} {x : AV} (h : canonOk k x = true) : (canon k x).slOwn = .no := by
  cases hc : canon k x with
  | sl z n rows o => exact (canon_sl h hc).1
  | _ => rfl

theorem canon_tup {k : CK} {x : AV} {ws : List AV} (h : canonOk k x = true) : canon k x ≠ .tup ws := by
  intro hw
  cases k <;> cases x <;> first
    | (simp only [canon] at hw; cases hw; done)
    | (simp [canonOk] at h; done)
    | (simp [canonOk, AV.isBool, AV.isInt, AV.isStr, AV.isSl] at h; done)
    | (cases hw; done)

theorem isKey_split {kt : Nat} {key : AV} {es : List (List AV × AV)} (h : isKey T kt key es = true) : ∃ cs, key = .agg cs ∧ keyType T kt = true ∧ canonOks (T.ks kt) cs = true ∧ es.all (fun p => canonOks (T.ks kt) p.1) = true := by
  unfold isKey at h
  split at h
  · simp only [Bool.and_eq_true] at h
    exact ⟨_, rfl, h.1.1, h.1.2, h.2⟩
  · cases h

theorem MR_len {es : List (List AV × AV)} {ents : Array MapEntry} (h : MR g w es ents) {p : Nat × List AV × AV} {cs : List AV} (hf : foundAt cs es = some p) : ∃ en, ents[p.1]? = some en ∧ VR g w p.2.2 en.val ∧ VR g w (.agg p.2.1) en.key := by
  obtain ⟨i, k, v⟩ := p
  obtain ⟨h1, _⟩ := foundAt_some hf
  obtain ⟨en, q1, q2, _, q4, _⟩ := h.2 i k v h1
  exact ⟨en, q1, q4, q2⟩

variable (hT : TabOK T P)
include hT

theorem lookup_sound {t : Nat} {m key y : AV} {ok : Bool} {vm vk : Value} (h : den C Lp (lookupOp T st t m key ok) = some y) (hm : VR g w m vm) (hk : VR g w key vk) (hH : HRel g w st.H) :
    ∃ u, (Instr.lookup t vm vk ok).run P w = .ok u w ∧ VR g w y u ∧ y.slOwn = .no := by
  have hs := hT.sh t
  have hks := hT.ks t
  unfold lookupOp at h
  unfold ksOk at hks
  cases hsh : T.sh t with
  | map kt e =>
    rw [hsh] at h hs hks
    have hut : P.underlying t = some (.map kt e) := hs
    simp only at h
    obtain ⟨⟨k, es⟩, h1, h⟩ := den_bind_some C Lp h
    obtain ⟨h2, h⟩ := den_chk_some C Lp h
    obtain ⟨h3, h⟩ := den_chk_some C Lp h
    obtain ⟨cs, rfl, hkt, hc, hall⟩ := isKey_split h2
    obtain ⟨b, ents, clk, rfl, _, _, hbl, hM⟩ := mapAt_sound h1 hm hH
    have hck := checkKey_sound hT hkt hc hk
    have hfk := findKey_sound hT hkt hc hk hall hM
    obtain ⟨z, hz, hzc, hzd⟩ := info_zero hT hks.2.2
    simp only [keyCells] at h h3
    simp only [← (canonE_eq h3).2] at h
    replace h3 := (canonE_eq h3).1
    -- the value
    have hval : ∃ u : Value, VR g w (getE cs (zeroVal T e) es) u ∧ (Instr.lookup t (.map (some b)) vk ok).run P w = .ok (if ok then .tuple #[u, .bool (hasE cs es)] else u) w := by
      cases hf : foundAt cs es with
      | none =>
        obtain ⟨f1, f2, _⟩ := foundAt_none hf
        rw [hf] at hfk
        simp only [Option.bind_none] at hfk
        refine ⟨z, ?_, ?_⟩
        · rw [f2]
          unfold zeroVal
          rw [hzd]
          split
          · exact (zeros_CR T e).agg
          · unfold zeros
            cases hke : T.ks e with
            | nil => exact .junk _
            | cons k ks => exact zero_VR g w k
        · rw [f1]
          simp only [Instr.lookup, Sem.run_bind, Go.run_underlying hut, Result.andThen_ok, MapKept.run_getObj_map hbl, hck, hfk, Sem.run_pure, hz]
      | some p =>
        obtain ⟨i, k', v'⟩ := p
        obtain ⟨en, q1, q2, _⟩ := MR_len hM hf
        obtain ⟨_, _, f3, f4, _⟩ := foundAt_some hf
        rw [hf] at hfk
        simp only [Option.bind_some, q1, Option.map_some] at hfk
        refine ⟨en.val, by rw [f4]; exact q2, ?_⟩
        rw [f3]
        simp only [Instr.lookup, Sem.run_bind, Go.run_underlying hut, Result.andThen_ok, MapKept.run_getObj_map hbl, hck, hfk, Sem.run_pure]
    obtain ⟨u, hu, hrun⟩ := hval
    refine ⟨_, hrun, ?_⟩
    have hcu := canon_VR h3 hu
    simp only [den_ret, Option.some.injEq] at h
    subst h
    cases ok with
    | false => exact ⟨hcu, canon_own h3⟩
    | true =>
      refine ⟨?_, rfl⟩
      simp only [if_true]
      refine .tup _ _ (fun j => (#[u, .bool (hasE cs es)] : Array Value).getD j undef) rfl (fun j x hx => ?_) (fun j x hx => ?_) (fun x hx ws => ?_)
      · rcases j with _ | _ | j
        · rfl
        · rfl
        · simp at hx
      · rcases j with _ | _ | j
        · simp only [List.getElem?_cons_zero, Option.some.injEq] at hx
          subst hx
          exact hcu
        · simp at hx
          subst hx
          exact .bool _
        · simp at hx
      · simp only [List.mem_cons, List.not_mem_nil, or_false] at hx
        rcases hx with rfl | rfl
        · exact canon_tup h3
        · intro hw; cases hw
  | _ => rw [hsh] at h; simp at h

theorem mapUpdate_sound {t : Nat} {m key x : AV} {vm vk v : Value} (hR : Rel g st a w) (h : den C Lp (mapUpdateOp T st t m key x) = some st') (hm : VR g w m vm) (hk : VR g w key vk) (hx : VR g w x v) :
    ∃ w', (Instr.mapUpdate t vm vk v).run P w = .ok () w' ∧ Nx g w st' a w' := by
  have hs := hT.sh t
  unfold mapUpdateOp at h
  cases hsh : T.sh t with
  | map kt e =>
    rw [hsh] at h hs
    have hut : P.underlying t = some (.map kt e) := hs
    simp only at h
    obtain ⟨⟨k, es⟩, h1, h⟩ := den_bind_some C Lp h
    obtain ⟨h2, h⟩ := den_chk_some C Lp h
    simp only [Bool.and_eq_true] at h2
    obtain ⟨⟨⟨h2, hro⟩, hpure⟩, _⟩ := h2
    simp only [Bool.not_eq_true'] at hro
    obtain ⟨cs, rfl, hkt, hc, hall⟩ := isKey_split h2
    obtain ⟨b, ents, clk, rfl, hHk, hgb, hbl, hM⟩ := mapAt_sound h1 hm hR.hr
    have hck := checkKey_sound hT hkt hc hk
    have hfk := findKey_sound hT hkt hc hk hall hM
    simp only [den_ret, Option.some.injEq] at h
    have hints : (T.ks kt).all intKind = true := by
      unfold keyType at hkt
      simp only [Bool.and_eq_true] at hkt
      exact hkt.2
    have hkok := canon_keyOk hints hc
    have hxs : VR g w x.strip v := VR_strip hx
    have hps : x.strip.pure1 = true := by cases x <;> simp_all [AV.strip, AV.pure1]
    cases hf : foundAt cs es with
    | none =>
      obtain ⟨f1, f2, _⟩ := foundAt_none hf
      rw [hf] at hfk
      simp only [Option.bind_none] at hfk
      rw [if_neg (show ¬ (hasE (keyCells (.agg cs)) es = true) by simp [keyCells, f1])] at h
      subst h
      refine ⟨_, ?_, rel_setMap hro (ents' := ents.push { key := vk, val := v, born := clk }) (clk' := clk + 1) hR hHk hgb hbl ⟨by simp [hM.1], fun i k' x' hi => ?_⟩⟩
      · simp only [Instr.mapUpdate, Sem.run_bind, Go.run_underlying hut, Result.andThen_ok, MapKept.run_getObj_map hbl, hck, hfk, MapKept.run_setObj_map _ hbl]
      · rcases Nat.lt_or_ge i es.length with hlt | hge
        · rw [List.getElem?_append_left hlt] at hi
          obtain ⟨en, q⟩ := hM.2 i k' x' hi
          refine ⟨en, ?_, q.2⟩
          rw [Array.getElem?_push, if_neg (by rw [hM.1]; omega)]
          exact q.1
        · rw [List.getElem?_append_right hge] at hi
          have hi0 : i = es.length := by
            have := lt_of_getElem? hi
            simp at this
            omega
          subst hi0
          simp only [Nat.sub_self, List.getElem?_cons_zero, Option.some.injEq, Prod.mk.injEq] at hi
          obtain ⟨rfl, rfl⟩ := hi
          refine ⟨{ key := vk, val := v, born := clk }, ?_, hk, hkok, hxs, hps, strip_own x⟩
          rw [Array.getElem?_push, if_pos hM.1.symm]
    | some p =>
      obtain ⟨i, k', v'⟩ := p
      obtain ⟨en, q1, q2, q3⟩ := MR_len hM hf
      obtain ⟨f0, fk, f3, f4, f5, _⟩ := foundAt_some hf
      rw [hf] at hfk
      simp only [Option.bind_some, q1, Option.map_some] at hfk
      rw [if_pos (show hasE (keyCells (.agg cs)) es = true by simp [keyCells, f3]), show setE (keyCells (.agg cs)) x.strip es = es.set i (cs, x.strip) from f5 _] at h
      subst h
      have hcs : cs = k' := keyEq_eq hints hc ((List.all_eq_true.1 hall) _ (mem_of_getElem? f0)) fk
      subst hcs
      obtain ⟨a1, rfl, a2⟩ := key_val hk hkok
      obtain ⟨b1, hb1, b2⟩ := key_val q3 hkok
      have hstay : (Instr.keyThatStays en.key (.agg a1)).run P w = .ok (.agg a1) w := by
        rw [hb1]
        simp [Instr.keyThatStays, sameBits_key (n := 9999) hkok b2 a2]
      refine ⟨_, ?_, rel_setMap hro (ents' := ents.modify i fun e => { e with key := .agg a1, val := v }) (clk' := clk) hR hHk hgb hbl ⟨by simp [hM.1], fun j k2 x2 hj => ?_⟩⟩
      · simp only [Instr.mapUpdate, Sem.run_bind, Go.run_underlying hut, Result.andThen_ok, MapKept.run_getObj_map hbl, hck, hfk, q1, Option.map_some, Option.getD_some, hstay, MapKept.run_setObj_map _ hbl]
      · rw [List.getElem?_set] at hj
        rw [Array.getElem?_modify]
        by_cases hij : i = j
        · subst hij
          rw [if_pos rfl] at hj
          split at hj
          · simp only [Option.some.injEq, Prod.mk.injEq] at hj
            obtain ⟨rfl, rfl⟩ := hj
            rw [if_pos rfl, q1]
            exact ⟨_, rfl, hk, hkok, hxs, hps, strip_own x⟩
          · simp at hj
        · rw [if_neg hij] at hj
          rw [if_neg hij]
          exact hM.2 j k2 x2 hj
  | _ => rw [hsh] at h; simp at h

theorem delete_sound {t t2 ty : Nat} {m key : AV} {vm vk : Value} (hR : Rel g st a w) (h : den C Lp (deleteOp T st t m key) = some st') (hm : VR g w m vm) (hk : VR g w key vk) :
    ∃ u w', (Builtin.delete_ #[t, t2] ty #[vm, vk]).run P w = .ok u w' ∧ Nx g w st' a w' := by
  have hs := hT.sh t
  unfold deleteOp at h
  cases hsh : T.sh t with
  | map kt e =>
    rw [hsh] at h hs
    have hut : P.underlying t = some (.map kt e) := hs
    simp only at h
    obtain ⟨⟨k, es⟩, h1, h⟩ := den_bind_some C Lp h
    obtain ⟨h2, h⟩ := den_chk_some C Lp h
    simp only [Bool.and_eq_true, Bool.not_eq_true'] at h2
    obtain ⟨h2, hro⟩ := h2
    obtain ⟨cs, rfl, hkt, hc, hall⟩ := isKey_split h2
    obtain ⟨b, ents, clk, rfl, hHk, hgb, hbl, hM⟩ := mapAt_sound h1 hm hR.hr
    have hck := checkKey_sound hT hkt hc hk
    have hfk := findKey_sound hT hkt hc hk hall hM
    simp only [den_ret, Option.some.injEq, keyCells] at h
    refine ⟨.tuple #[], ?_⟩
    cases hf : foundAt cs es with
    | none =>
      obtain ⟨_, _, f3⟩ := foundAt_none hf
      rw [hf] at hfk
      simp only [Option.bind_none] at hfk
      rw [f3] at h
      subst h
      refine ⟨_, ?_, rel_setMap hro (ents' := ents) (clk' := clk) hR hHk hgb hbl hM⟩
      simp [Builtin.delete_, Go.run_underlying hut, MapKept.run_getObj_map hbl, hck, hfk, MapKept.run_setObj_map _ hbl]
    | some p =>
      obtain ⟨i, k', v'⟩ := p
      obtain ⟨en, q1, _⟩ := MR_len hM hf
      obtain ⟨f0, _, _, _, _, f6⟩ := foundAt_some hf
      rw [hf] at hfk
      simp only [Option.bind_some, q1, Option.map_some] at hfk
      rw [f6] at h
      subst h
      have hil := lt_of_getElem? f0
      refine ⟨_, ?_, rel_setMap hro (ents' := ents.eraseIdxIfInBounds i) (clk' := clk) hR hHk hgb hbl ⟨?_, fun j k2 x2 hj => ?_⟩⟩
      · simp [Builtin.delete_, Go.run_underlying hut, MapKept.run_getObj_map hbl, hck, hfk, MapKept.run_setObj_map _ hbl]
      · have : i < ents.size := by rw [hM.1]; exact hil
        simp [Array.eraseIdxIfInBounds, this, List.length_eraseIdx, hil, hM.1]
      · have hi2 : i < ents.size := by rw [hM.1]; exact hil
        rw [List.getElem?_eraseIdx] at hj
        have he : (ents.eraseIdxIfInBounds i)[j]? = if j < i then ents[j]? else ents[j + 1]? := by
          simp only [Array.eraseIdxIfInBounds, dif_pos hi2]
          rw [Array.getElem?_eraseIdx]
        rw [he]
        split at hj
        · rename_i hlt
          rw [if_pos hlt]
          exact hM.2 j k2 x2 hj
        · rename_i hlt
          rw [if_neg hlt]
          exact hM.2 (j + 1) k2 x2 hj
  | _ => rw [hsh] at h; simp at h
end
end Go.Ab
namespace Go.Ab

section
variable {T : Tab} {P : Program} {C : Nat → List AV → List GB → Option (AV × List GB)} {Lp : Nat → Nat → Code → St → Option (Ex × St)}
  {g : Gh} {w : World} {st st' : St} {a : Act}

/-- Lists of arguments. -/
def ArgsR (g : Gh) (w : World) (args : List AV) (vals : List Value) : Prop :=
  vals.length = args.length ∧ ∀ (i : Nat) x, args[i]? = some x → ∃ v, vals[i]? = some v ∧ VR g w x v

/-- Flags of arguments. -/
def ArgsF (g : Gh) (w : World) (st : St) (args : List AV) (vals : List Value) : Prop :=
  ∀ (i : Nat) x v, args[i]? = some x → vals[i]? = some v → FL g w (fresh st x) v

/-- What a call does, as far as this function is concerned. -/
def CallLaw (T : Tab) (P : Program) (C : Nat → List AV → List GB → Option (AV × List GB)) (Lp : Nat → Nat → Code → St → Option (Ex × St)) (fid : Nat) : Prop :=
  ∀ (g : Gh) (st : St) (a : Act) (w : World) (o : Oper) (drawn : Bool) (f : Nat) (args : List AV) (vals : List Value) (st' : St) (Q : Exit → Act → World → Prop),
    Rel g st a w → den C Lp (callOp T fid st o.dst drawn f args) = some st' → ArgsR g w args vals → ArgsF g w st args vals →
    o.upon P a (fun a' w' => Nx g w st' a' w') Q ((callFunc f vals.toArray).run P w)

theorem litBool_id {c : Operand} {b : Bool} (h : rho st c = .bool b) : litBool st c b = st := by
  cases c with
  | tmp t =>
    simp only [rho, St.get, nth_eq_getD] at h
    simp only [litBool, St.set, upd_eq_set]
    have hlt : t < st.tm.length := by
      rcases Nat.lt_or_ge t st.tm.length with h1 | h1
      · exact h1
      · simp [List.getD, List.getElem?_eq_none h1] at h
    have : st.tm.set t (.bool b) = st.tm := by
      apply List.ext_getElem?
      intro i
      rw [List.getElem?_set]
      by_cases hti : t = i
      · subst hti
        rw [if_pos rfl, if_pos hlt, ← h]
        simp [List.getD, hlt]
      · rw [if_neg hti]
    rw [this]
  | _ => rfl

variable {o : Oper} {Q : Exit → Act → World → Prop} {next : Act → World → Prop}

theorem wp_val {s : Sem Value} {v : Value} {w' : World} (hx : execOp a.eval o = (do pure (.value (← s)) : Sem Next)) (hr : s.run P w = .ok v w') (hn : next (a.put o.dst v) w') : o.wp P a w next Q := by
  unfold Oper.wp
  rw [hx]
  simp only [Sem.run_bind, hr, Result.andThen_ok, Sem.run_pure]
  exact hn

theorem wp_unit {s : Sem Unit} {w' : World} (hx : execOp a.eval o = (do s; pure .skip : Sem Next)) (hr : s.run P w = .ok () w') (hn : next (a.put o.dst undef) w') : o.wp P a w next Q := by
  unfold Oper.wp
  rw [hx]
  simp only [Sem.run_bind, hr, Result.andThen_ok, Sem.run_pure]
  exact hn

theorem bindPut {r : R AV} {d : Option Nat} (h : den C Lp (r.bind fun x => .ret (st.put d x)) = some st') : ∃ y, den C Lp r = some y ∧ st' = st.put d y := by
  obtain ⟨y, h1, h2⟩ := den_bind_some C Lp h
  simp only [den_ret, Option.some.injEq] at h2
  exact ⟨y, h1, h2.symm⟩

/-- Reckoned values. -/
theorem wp_reckon (hR : Rel g st a w) {s : Sem Value} {r : R AV} (hx : execOp a.eval o = (do pure (.value (← s)) : Sem Next)) (h : den C Lp (r.bind fun x => .ret (st.put o.dst x)) = some st')
    (hs : ∀ y, den C Lp r = some y → ∃ u, s.run P w = .ok u w ∧ VR g w y u ∧ y.slOwn = .no) : o.wp P a w (fun a' w' => Nx g w st' a' w') Q := by
  obtain ⟨y, h1, rfl⟩ := bindPut h
  obtain ⟨u, h2, h3, h4⟩ := hs y h1
  exact wp_val hx h2 (nx_put hR o.dst h3 (FL_no (fresh_no _ h4)))

theorem Nx_skip (d : Option Nat) {w' : World} (h : Nx g w st' a w') : Nx g w (st'.put d .und) (a.put d undef) w' :=
  let ⟨g', h1, h2⟩ := h
  ⟨g', h1, rel_put h2 d .und trivial⟩

theorem args_rho (hR : Rel g st a w) (l : List Operand) : ArgsR g w (l.map (rho st)) (l.map a.eval) := by
  refine ⟨by simp, fun i x hx => ?_⟩
  rw [List.getElem?_map] at hx
  cases hi : l[i]? with
  | none => rw [hi] at hx; simp at hx
  | some y =>
    rw [hi] at hx
    simp only [Option.map_some, Option.some.injEq] at hx
    subst hx
    exact ⟨a.eval y, by rw [List.getElem?_map, hi]; rfl, (rel_rho hR y).1⟩

theorem toList_eq1 {α : Type} {l : Array α} {x : α} (h : l.toList = [x]) : l = #[x] := Array.toList_inj.1 h
theorem toList_eq2 {α : Type} {l : Array α} {x y : α} (h : l.toList = [x, y]) : l = #[x, y] := Array.toList_inj.1 h

theorem mm_case {f : Int → Int → Int} {op : Value → Value → Sem Value} (hop : ∀ k x k' y w, (op (.int k x) (.int k' y)).run P w = .ok (.int k (f x y)) w) (hR : Rel g st a w) {x z : Operand} {xs : List Operand} {y : AV}
    (h : den C Lp (mm f (rho st x) ((z :: xs).map (rho st))) = some y) : ∃ u, (((z :: xs).map a.eval).foldlM op (a.eval x)).run P w = .ok u w ∧ VR g w y u ∧ y.slOwn = .no := by
  refine mm_sound hop h ?_ (rel_rho hR x).1 (by simp) (fun j v hv => ?_)
  · cases hx : rho st x <;> rw [hx] at h <;> first
      | exact ⟨_, _, rfl⟩
      | simp [mm] at h
  · exact (args_rho hR (z :: xs)).2 j v hv

variable (hT : TabOK T P)
include hT

theorem builtin_sound {fid : Nat} {b : Builtin} {args : List Operand} {tys : List Nat} {ty : Nat} {consts : Array Bool} (hR : Rel g st a w)
    (h : den C Lp (match b, args, tys with
      | .len, [x], [t] => (lenOp T st t (rho st x)).bind fun x => .ret (st.put o.dst x)
      | .min, x :: y :: xs, _ => (mm (fun x y => if y < x then y else x) (rho st x) ((y :: xs).map (rho st))).bind fun x => .ret (st.put o.dst x)
      | .max, x :: y :: xs, _ => (mm (fun x y => if y > x then y else x) (rho st x) ((y :: xs).map (rho st))).bind fun x => .ret (st.put o.dst x)
      | .append, [x, y], [t, t2] => (match T.sh t2 with
        | .slice _ | .str => appendOp T fid st o.dst t (rho st x) (rho st y)
        | _ => .fail)
      | .delete, [m, k], [t, _] => (deleteOp T st t (rho st m) (rho st k)).bind fun st => .ret (st.put o.dst .junk)
      | _, _, _ => .fail) = some st') :
    ∃ r w', (builtin b tys.toArray ty consts (args.map a.eval).toArray).run P w = .ok (.value r) w' ∧ Nx g w st' (a.put o.dst r) w' := by
  split at h
  · rename_i x t
    obtain ⟨y, h1, rfl⟩ := bindPut h
    obtain ⟨u, h2, h3, h4⟩ := len_sound hT (ty := ty) h1 (rel_rho hR x).1 hR.hr
    exact ⟨u, w, by simp [builtin, h2], nx_put hR o.dst h3 (FL_no (fresh_no _ h4))⟩
  · rename_i x z xs
    obtain ⟨y, h1, rfl⟩ := bindPut h
    obtain ⟨u, h2, h3, h4⟩ := mm_case (op := Builtin.min2) (fun k x k' y w => rfl) hR h1
    have h2' : (List.foldlM Builtin.min2 (a.eval x) (a.eval z :: xs.map a.eval)).run P w = .ok u w := h2
    exact ⟨u, w, by simp only [builtin, Builtin.min_, List.map_cons, Sem.run_bind, h2', Result.andThen_ok, Sem.run_pure], nx_put hR o.dst h3 (FL_no (fresh_no _ h4))⟩
  · rename_i x z xs
    obtain ⟨y, h1, rfl⟩ := bindPut h
    obtain ⟨u, h2, h3, h4⟩ := mm_case (op := Builtin.max2) (fun k x k' y w => rfl) hR h1
    have h2' : (List.foldlM Builtin.max2 (a.eval x) (a.eval z :: xs.map a.eval)).run P w = .ok u w := h2
    exact ⟨u, w, by simp only [builtin, Builtin.max_, List.map_cons, Sem.run_bind, h2', Result.andThen_ok, Sem.run_pure], nx_put hR o.dst h3 (FL_no (fresh_no _ h4))⟩
  · rename_i x y t t2
    have hk : (∃ e', P.underlying t2 = some (.slice e')) ∨ P.underlying t2 = some .string := by
      have := hT.sh t2
      cases hs : T.sh t2 with
      | slice e => rw [hs] at this; exact .inl ⟨e, this⟩
      | str => rw [hs] at this; exact .inr this
      | _ => rw [hs] at h; simp at h
    have h' : den C Lp (appendOp T fid st o.dst t (rho st x) (rho st y)) = some st' := by
      cases hs : T.sh t2 <;> rw [hs] at h <;> first
        | exact h
        | simp at h
    obtain ⟨r, w', h1, h2⟩ := append_sound hT (ty := ty) hR h' (rel_rho hR x).1 (rel_rho hR x).2 (rel_rho hR y).1 hk
    exact ⟨r, w', by simp [builtin, h1], h2⟩
  · rename_i m k t t2
    obtain ⟨st1, h1, h2⟩ := den_bind_some C Lp h
    simp only [den_ret, Option.some.injEq] at h2
    subst h2
    obtain ⟨u, w', q1, g', q2, q3⟩ := delete_sound hT (t2 := t2) (ty := ty) hR h1 (rel_rho hR m).1 (rel_rho hR k).1
    exact ⟨u, w', by simp [builtin, q1], g', q2, rel_put q3 o.dst (.junk _) trivial⟩
  · simp at h

theorem evOp_sound {fid : Nat} {drawn ng : Bool} (hcall : CallLaw T P C Lp fid) (hR : Rel g st a w) (h : den C Lp (evOp T fid drawn ng o st) = some st') : o.wp P a w (fun a' w' => Nx g w st' a' w') Q := by
  have parts_ok : ∀ parts : Array (Nat × Operand), (parts.map fun (i, x) => (i, a.eval x)).size = (parts.toList.map fun (i, x) => (i, rho st x)).length ∧
      ∀ (j : Nat) i x, (parts.toList.map fun (i, x) => (i, rho st x))[j]? = some (i, x) → ∃ v, (parts.map fun (i, x) => (i, a.eval x))[j]? = some (i, v) ∧ VR g w x v := by
    intro parts
    refine ⟨by simp, fun j i x hj => ?_⟩
    rw [List.getElem?_map] at hj
    cases hp : parts.toList[j]? with
    | none => rw [hp] at hj; simp at hj
    | some p =>
      rw [hp] at hj
      simp only [Option.map_some, Option.some.injEq, Prod.mk.injEq] at hj
      obtain ⟨rfl, rfl⟩ := hj
      rw [Array.getElem?_toList] at hp
      exact ⟨a.eval p.2, by rw [Array.getElem?_map, hp]; rfl, (rel_rho hR p.2).1⟩
  unfold evOp at h
  cases hop : o.op with
  | move x =>
    simp only [hop, den_ret, Option.some.injEq] at h
    subst h
    obtain ⟨h1, h2⟩ := rel_rho hR x
    exact wp_val (s := pure (a.eval x)) (by simp [execOp, hop]) (by simp) (nx_put hR o.dst h1 h2)
  | assign x =>
    simp only [hop, den_ret, Option.some.injEq] at h
    subst h
    obtain ⟨h1, h2⟩ := rel_rho hR x
    exact wp_val (s := pure (a.eval x)) (by simp [execOp, hop]) (by simp) (nx_put hR o.dst h1 h2)
  | pick c x y =>
    simp only [hop] at h
    obtain ⟨hc, _⟩ := rel_rho hR c
    cases hrc : rho st c with
    | bool b =>
      rw [hrc] at h hc
      simp only [den_br, den_ret] at h
      generalize hvc : a.eval c = vc at hc
      cases hc
      have hrun : (do pure (if ← asBool (a.eval c) then a.eval x else a.eval y) : Sem Value).run P w = .ok (if b then a.eval x else a.eval y) w := by
        rw [hvc]; cases b <;> simp [asBool]
      refine wp_val (s := do pure (if ← asBool (a.eval c) then a.eval x else a.eval y)) (by simp [execOp, hop]) hrun ?_
      cases b with
      | true =>
        rw [litBool_id hrc] at h
        simp only [cond_true, Option.some.injEq] at h
        subst h
        obtain ⟨h1, h2⟩ := rel_rho hR x
        exact nx_put hR o.dst h1 h2
      | false =>
        rw [litBool_id hrc] at h
        simp only [cond_false, Option.some.injEq] at h
        subst h
        obtain ⟨h1, h2⟩ := rel_rho hR y
        exact nx_put hR o.dst h1 h2
    | _ => rw [hrc] at h; simp at h
  | alloc e =>
    simp only [hop] at h
    obtain ⟨v, w', h1, h2⟩ := alloc_sound hT hR h
    exact wp_val (by simp [execOp, hop]) h1 h2
  | box e x =>
    simp only [hop] at h
    obtain ⟨v, w', h1, h2⟩ := box_sound hT hR (rel_rho hR x).1 h
    exact wp_val (by simp [execOp, hop]) h1 h2
  | build t parts =>
    simp only [hop] at h
    exact wp_reckon hR (by simp [execOp, hop]) h fun y hy => build_sound hT hy (parts_ok parts).1 (parts_ok parts).2
  | buildSlice t len parts =>
    simp only [hop] at h
    obtain ⟨y, h1, rfl⟩ := bindPut h
    obtain ⟨v, w', h2, h3⟩ := buildSlice_sound hT hR h1 (parts_ok parts).1 (parts_ok parts).2
    exact wp_val (by simp [execOp, hop]) h2 h3
  | load t x =>
    simp only [hop] at h
    obtain ⟨_, h⟩ := den_chk_some C Lp h
    obtain ⟨y, h1, rfl⟩ := bindPut h
    obtain ⟨u, h2, h3, h4⟩ := load_sound hT hR h1 (rel_rho hR x).1
    exact wp_val (by simp [execOp, hop]) h2 (nx_put hR o.dst h3 h4)
  | store t x y =>
    simp only [hop] at h
    obtain ⟨st1, h1, h2⟩ := den_bind_some C Lp h
    simp only [den_ret, Option.some.injEq] at h2
    subst h2
    obtain ⟨w', h3, h4⟩ := store_sound hT hR h1 (rel_rho hR x).1 (rel_rho hR y).1 (rel_rho hR y).2
    exact wp_unit (by simp [execOp, hop]) h3 (Nx_skip o.dst h4)
  | nilCheck x =>
    simp only [hop] at h
    obtain ⟨h1, h2⟩ := rel_rho hR x
    generalize hv : a.eval x = v at h1 h2
    cases hr : rho st x with
    | lp k o' =>
      rw [hr] at h h1
      simp only [den_ret, Option.some.injEq] at h
      subst h
      refine wp_val (s := pure v) ?_ (by simp) (nx_put hR o.dst h1 trivial)
      cases h1
      simp [execOp, hop, hv]
    | gp k o' =>
      rw [hr] at h h1
      simp only [den_ret, Option.some.injEq] at h
      subst h
      refine wp_val (s := pure v) ?_ (by simp) (nx_put hR o.dst h1 trivial)
      cases h1
      simp [execOp, hop, hv]
    | ep r o' =>
      rw [hr] at h h1
      simp only [den_ret, Option.some.injEq] at h
      subst h
      refine wp_val (s := pure v) ?_ (by simp) (nx_put hR o.dst h1 trivial)
      cases h1
      simp [execOp, hop, hv]
    | _ => rw [hr] at h; simp at h
  | binOp op t x y yt =>
    simp only [hop] at h
    exact wp_reckon hR (s := do eqGuard op t x y (a.eval x) (a.eval y); binOp op t (a.eval x) (a.eval y)) (by simp only [execOp, hop]) h fun z hz => binOp_sound hT hz (rel_rho hR x).1 (rel_rho hR y).1
  | unOp op t x =>
    simp only [hop] at h
    exact wp_reckon hR (by simp [execOp, hop]) h fun z hz => unOp_sound hz (rel_rho hR x).1
  | convert s d x =>
    simp only [hop] at h
    obtain ⟨u, w', h1, h2⟩ := convert_sound hT hR (rel_rho hR x).1 h
    exact wp_val (by simp [execOp, hop]) h1 h2
  | makeFunc fn fs caps =>
    cases fn with
    | func f =>
      simp only [hop] at h
      obtain ⟨hc, h⟩ := den_chk_some C Lp h
      simp only [Bool.and_eq_true] at hc
      have hfs : fs = #[] := by simpa using hc.1
      refine wp_reckon hR (s := Instr.makeFunc (.func f) (fs.map a.eval) (caps.map a.eval)) (by simp [execOp, hop]) h fun z hz => ?_
      simp only [den_ret, Option.some.injEq] at hz
      subst hz
      refine ⟨_, by simp [Instr.makeFunc]; rfl, ?_, rfl⟩
      rw [hfs]
      have := makeFunc_sound (g := g) (w := w) (f := f) (vs := caps.toList.map fun x => (rho st x).strip) (us := caps.toList.map a.eval) (by simp) (fun j x hx => ?_) hc.2
      · have e : (caps.toList.map a.eval).toArray = caps.map a.eval := by apply Array.ext'; simp
        rw [e] at this
        simpa using this
      · rw [List.getElem?_map] at hx
        cases hj : caps.toList[j]? with
        | none => rw [hj] at hx; simp at hx
        | some p =>
          rw [hj] at hx
          simp only [Option.map_some, Option.some.injEq] at hx
          subst hx
          exact ⟨a.eval p, by rw [List.getElem?_map, hj]; rfl, VR_strip (rel_rho hR p).1⟩
    | _ => simp [hop] at h
  | makeMap t r =>
    cases r with
    | none =>
      simp only [hop] at h
      cases hd : o.dst with
      | none => rw [hd] at h; simp at h
      | some d =>
        rw [hd] at h
        simp only at h
        obtain ⟨hro, h⟩ := den_chk_some C Lp h
        simp only [den_ret, Option.some.injEq] at h
        subst h
        obtain ⟨v, w', h1, h2⟩ := makeMap_sound (P := P) (d := d) (t := t) hR (by simpa using hro)
        refine wp_val (s := Instr.makeMap t none) (by simp [execOp, hop]) h1 ?_
        rw [hd]
        exact h2
    | some r => simp [hop] at h
  | slice t x lo hi mx =>
    simp only [hop] at h
    have hvo : ∀ q : Option Operand, VRo g w (q.map (rho st)) (q.map a.eval) := fun q => by
      cases q with
      | none => trivial
      | some q => exact (rel_rho hR q).1
    cases mx with
    | none => exact wp_reckon hR (by simp [execOp, hop]) h fun z hz => slice_sound hT hz (rel_rho hR x).1 (hvo lo) (hvo hi) hR.lr
    | some m =>
      refine wp_reckon hR (s := Instr.sliceAt t (a.eval x) (lo.map a.eval) (hi.map a.eval) (some (a.eval m))) (by simp [execOp, hop]) h fun z hz => ?_
      simp [sliceOp] at hz
  | fieldAddr t x f =>
    simp only [hop] at h
    exact wp_reckon hR (by simp [execOp, hop]) h fun z hz => fieldAddr_sound hT hz (rel_rho hR x).1
  | indexAddr t x i =>
    simp only [hop] at h
    exact wp_reckon hR (by simp [execOp, hop]) h fun z hz => indexAddr_sound hT hz (rel_rho hR x).1 (rel_rho hR i).1
  | index t x i =>
    simp only [hop] at h
    refine wp_reckon hR (s := Instr.index t (a.eval x) (a.eval i)) (by simp [execOp, hop]) h fun z hz => ?_
    obtain ⟨y, h1, h2⟩ := den_bind_some C Lp hz
    simp only [den_ret, Option.some.injEq] at h2
    subst h2
    obtain ⟨u, q1, q2⟩ := index_sound hT h1 (rel_rho hR x).1 (rel_rho hR i).1
    exact ⟨u, q1, VR_strip q2, strip_own y⟩
  | lookup t m k ok =>
    simp only [hop] at h
    exact wp_reckon hR (by simp [execOp, hop]) h fun z hz => lookup_sound hT hz (rel_rho hR m).1 (rel_rho hR k).1 hR.hr
  | mapUpdate t m k x =>
    simp only [hop] at h
    obtain ⟨st1, h1, h2⟩ := den_bind_some C Lp h
    simp only [den_ret, Option.some.injEq] at h2
    subst h2
    obtain ⟨w', h3, h4⟩ := mapUpdate_sound hT hR h1 (rel_rho hR m).1 (rel_rho hR k).1 (rel_rho hR x).1
    exact wp_unit (by simp [execOp, hop]) h3 (Nx_skip o.dst h4)
  | extract x i =>
    simp only [hop] at h
    exact wp_reckon hR (by simp [execOp, hop]) h fun z hz => extract_sound hz (rel_rho hR x).1
  | call c =>
    simp only [hop] at h
    cases hcal : c.callee with
    | builtin b =>
      simp only [hcal] at h
      have key : ∀ consts : Array Bool, Oper.upon P o a (fun a' w' => Nx g w st' a' w') Q ((builtin b c.argTypes o.type consts (c.args.map a.eval)).run P w) := by
        intro consts
        obtain ⟨r, w', h1, h2⟩ := builtin_sound hT (o := o) (fid := fid) (b := b) (args := c.args.toList) (tys := c.argTypes.toList) (ty := o.type) (consts := consts) hR h
        have e1 : c.argTypes.toList.toArray = c.argTypes := by simp
        have e2 : (c.args.toList.map a.eval).toArray = c.args.map a.eval := by
          apply Array.ext'; simp
        rw [e1, e2] at h1
        rw [h1]
        exact h2
      unfold Oper.wp
      simp only [execOp, hop, resolve, hcal, Sem.run_bind, Sem.run_pure, Result.andThen_ok, invoke]
      exact key _
    | value gf =>
      simp only [hcal] at h
      obtain ⟨hv, _⟩ := rel_rho hR gf
      cases hr : rho st gf with
      | fn f cap =>
        rw [hr] at h hv
        simp only at h
        generalize hgv : a.eval gf = gv at hv
        cases hv with
        | fn _ _ vals val hs hc hval hp =>
          have hargs : ArgsR g w (c.args.toList.map (rho st) ++ cap.map AV.strip) (c.args.toList.map a.eval ++ vals.toList) := by
            obtain ⟨q1, q2⟩ := args_rho hR c.args.toList
            refine ⟨by simp [hs], fun i x hx => ?_⟩
            rcases Nat.lt_or_ge i (c.args.toList.map (rho st)).length with hlt | hge
            · rw [List.getElem?_append_left hlt] at hx
              obtain ⟨v, r1, r2⟩ := q2 i x hx
              exact ⟨v, by rw [List.getElem?_append_left (lt_of_getElem? r1)]; exact r1, r2⟩
            · rw [List.getElem?_append_right hge, List.getElem?_map] at hx
              cases hcx : cap[i - (c.args.toList.map (rho st)).length]? with
              | none => rw [hcx] at hx; simp at hx
              | some y =>
              rw [hcx] at hx
              simp only [Option.map_some, Option.some.injEq] at hx
              subst hx
              have h1 := hc _ y hcx
              have h2 := VR_strip (hval _ y hcx)
              refine ⟨val (i - (c.args.toList.map (rho st)).length), ?_, h2⟩
              rw [List.getElem?_append_right (by rw [q1]; exact hge), q1, Array.getElem?_toList]
              exact h1
          have hfl : ArgsF g w st (c.args.toList.map (rho st) ++ cap.map AV.strip) (c.args.toList.map a.eval ++ vals.toList) := by
            intro i x v hx hvx
            rcases Nat.lt_or_ge i c.args.toList.length with hlt | hge
            · rw [List.getElem?_append_left (by simpa using hlt), List.getElem?_map] at hx hvx
              cases hci : c.args.toList[i]? with
              | none => rw [hci] at hx; simp at hx
              | some z =>
                rw [hci] at hx hvx
                simp only [Option.map_some, Option.some.injEq] at hx hvx
                subst hx
                subst hvx
                exact (rel_rho hR z).2
            · rw [List.getElem?_append_right (by simpa using hge), List.getElem?_map] at hx
              cases hcx : cap[i - (c.args.toList.map (rho st)).length]? with
              | none => rw [hcx] at hx; simp at hx
              | some y =>
                rw [hcx] at hx
                simp only [Option.map_some, Option.some.injEq] at hx
                subst hx
                exact FL_no (fresh_no st (strip_own y))
          have := hcall g st a w o drawn f _ _ st' Q hR h hargs hfl
          unfold Oper.wp
          have e2 : (c.args.toList.map a.eval ++ vals.toList).toArray = #[] ++ c.args.map a.eval ++ vals := by
            apply Array.ext'; simp
          rw [e2] at this
          simp only [execOp, hop, resolve, hcal, hgv, Deferred.ofValue, Sem.run_bind, Sem.run_pure, Result.andThen_ok, invoke]
          exact this
      | _ => rw [hr] at h; simp at h
    | _ => simp only [hcal] at h; simp at h
  | _ => simp [hop] at h
end
end Go.Ab
