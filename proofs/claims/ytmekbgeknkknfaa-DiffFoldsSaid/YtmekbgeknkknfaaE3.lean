/- DiffFolds answers true at every input, and its arguments read as they did. No condition. -/
import Derived.Test.YtmekbgeknkknfaaRows
import Derived.Test.YtmekbgeknkknfaaQ6
import Derived.Test.YtmekbgeknkknfaaN1
import Derived.Test.YtmekbgeknkknfaaE3c
import Derived.ProofKit
namespace Go.Ab
open Go.Proofs

/-- A thing's cells. -/
theorem th_of {r : List AV} (h : Ctys [(.i .i64), (.i .i64), (.i .i64), (.i .i64), .s, (.i .i64), .s, (.i .i64), .s, (.i .i64), .s] r) : ∃ t : Th, r = t.enc := by
  obtain ⟨hl, h⟩ := h
  match r, hl with
  | [a0, a1, a2, a3, a4, a5, a6, a7, a8, a9, a10], _ =>
    obtain ⟨x0, rfl, _⟩ := h 0 _ a0 rfl rfl
    obtain ⟨x1, rfl, _⟩ := h 1 _ a1 rfl rfl
    obtain ⟨x2, rfl, _⟩ := h 2 _ a2 rfl rfl
    obtain ⟨x3, rfl, _⟩ := h 3 _ a3 rfl rfl
    obtain ⟨x4, rfl, _⟩ := h 4 _ a4 rfl rfl
    obtain ⟨x5, rfl, _⟩ := h 5 _ a5 rfl rfl
    obtain ⟨x6, rfl, _⟩ := h 6 _ a6 rfl rfl
    obtain ⟨x7, rfl, _⟩ := h 7 _ a7 rfl rfl
    obtain ⟨x8, rfl, _⟩ := h 8 _ a8 rfl rfl
    obtain ⟨x9, rfl, _⟩ := h 9 _ a9 rfl rfl
    obtain ⟨x10, rfl, _⟩ := h 10 _ a10 rfl rfl
    exact ⟨⟨x0, x1, x2, ⟨x3, x4⟩, ⟨x5, x6⟩, ⟨x7, x8⟩, ⟨x9, x10⟩⟩, rfl⟩
theorem four_of {r : List AV} (h : Ctys [(.i .i64), (.i .i64), (.i .i64), (.i .i64)] r) : ∃ x0 x1 x2 x3, r = [I x0, I x1, I x2, I x3] := by
  obtain ⟨hl, h⟩ := h
  match r, hl with
  | [a0, a1, a2, a3], _ =>
    obtain ⟨x0, rfl, _⟩ := h 0 _ a0 rfl rfl
    obtain ⟨x1, rfl, _⟩ := h 1 _ a1 rfl rfl
    obtain ⟨x2, rfl, _⟩ := h 2 _ a2 rfl rfl
    obtain ⟨x3, rfl, _⟩ := h 3 _ a3 rfl rfl
    exact ⟨x0, x1, x2, x3, rfl⟩
theorem rows_map {α : Type} {f : α → List AV} : ∀ {rows : List (List AV)}, (∀ r ∈ rows, ∃ t, r = f t) → ∃ l : List α, rows = l.map f
  | [], _ => ⟨[], rfl⟩
  | r :: rows, h => by
    obtain ⟨t, rfl⟩ := h r (by simp)
    obtain ⟨l, rfl⟩ := rows_map (rows := rows) fun r hr => h r (by simp [hr])
    exact ⟨t :: l, rfl⟩

theorem s3_val (n m : Bool) (r q : List (List AV)) (x0 x1 x2 x3 y0 y1 y2 y3 : Int) : (s3 [.sl 11 n r .no, .sl 11 m q .no, .agg [I x0, I x1, I x2, I x3], .agg [I y0, I y1, I y2, I y3]] []).val = (Dt.opt (v3 n r m q x0 x1 x2 x3 y0 y1 y2 y3) fun x => .ret (.bool x, [])).val := by kernel_rfl
theorem runs3 (n m : Bool) (a b : List Th) (x0 x1 x2 x3 y0 y1 y2 y3 : Int) (ha : a.length ≤ 9223372036854775807) (hb : b.length ≤ 9223372036854775807) :
    Runs TA 3 [.sl 11 n (a.map Th.enc) .no, .sl 11 m (b.map Th.enc) .no, .agg [I x0, I x1, I x2, I x3], .agg [I y0, I y1, I y2, I y3]] [] (.bool true, []) := by
  refine k3 _ _ _ ?_
  rw [s3_val, v3_true n m a b x0 x1 x2 x3 y0 y1 y2 y3 ha hb]
  rfl
theorem ks22 : TA.sh 22 = .slice 36 ∧ TA.ks 36 = [(.i .i64), (.i .i64), (.i .i64), (.i .i64), .s, (.i .i64), .s, (.i .i64), .s, (.i .i64), .s] := ⟨by kernel_rfl, by kernel_rfl⟩
theorem ks24 : Ab.isAgg TA 24 = true ∧ TA.ks 24 = [(.i .i64), (.i .i64), (.i .i64), (.i .i64)] := ⟨by kernel_rfl, by kernel_rfl⟩
theorem Older.below {w w' : World} (h : Older w w') : Go.RowKit.Below w.heap.size w w' := ⟨h.os, h.tape, h.out, h.size, h.old⟩
end Go.Ab

namespace Go.Proofs.Ytmekbgeknkknfaa
open Go.ChangeShapes Go.WideShapes Go.ChangeAt Go.RowKit Go.Ab

theorem Try.own : ownKnob Try.prog.godebug = none := by kernel_rfl
theorem Try.laid : laidOutB Try.prog = true := by kernel_rfl

set_option maxRecDepth 100000 in
theorem diffFolds_lifted (os : Os) (started : os.Started) (H : Type) (enc : TypeId × Value → H) :
    ReturnsInHanded {} Try.checked os 3 .any (Rows.diffFoldsSpec.pre6 enc Try.prog Try.f3 Rows.diffFoldsRow.domain false) (Rows.diffFoldsSpec.post enc Try.prog Try.f3 false true false false) := by
  refine returnsInHanded_of_change (C := Try.checked) Try.own started (by kernel_rfl) Try.func3
    (ChangeSpec.witness6 (enc := enc) (C := Try.checked) false ⟨#[], #[.slice none 0 0, .slice none 0 0, .agg #[.int .i64 0, .int .i64 0, .int .i64 0, .int .i64 0], .agg #[.int .i64 0, .int .i64 0, .int .i64 0, .int .i64 0]], []⟩ 8 (by kernel_rfl) (by kernel_rfl) (by kernel_rfl) (by kernel_rfl)) ?_
  intro W base args ds gs before hval0 hW hcnd _
  have hval : ∀ (j : Nat) t v, Try.f3.params[j]? = some t → args[j]? = some v → Value.okWide Try.prog W .any base t v := hval0
  have hW' := hW
  obtain ⟨p, q, hA0, hV, rfl, hfz, hnd⟩ := hW
  have hA : DataW.TrodAll enc Try.prog W 0 (fun _ => true) true Try.f3.params.toList args.toList ds p := hA0
  rw [Try.params3] at hA hval
  have hlt := DataW.TrodAll.lt hA
  obtain ⟨v0, v1, v2, v3, d0, d1, d2, d3, p0, p1, p2, p3, rfl, rfl, rfl, h0, h1, h2, h3⟩ := trodAll_four hA
  obtain ⟨rfl, rfl⟩ := trodVars_none hV
  clear hA0 hval0
  simp only [List.append_nil] at hW'
  have hT : TabOK TA Try.prog := baseA.1
  obtain ⟨n, r, a1, a2, a3, a4⟩ := slice_arg hT ks22.1 (by rw [ks22.2]; rfl) (hval 0 22 v0 rfl rfl) h0
  obtain ⟨m, s, b1, b2, b3, b4⟩ := slice_arg hT ks22.1 (by rw [ks22.2]; rfl) (hval 1 22 v1 rfl rfl) h1
  obtain ⟨c, c1, c2⟩ := agg_arg hT (startG (sizes W)) ks24.1 (by rw [ks24.2]; rfl) (hval 2 24 v2 rfl rfl) h2
  obtain ⟨e, e1, e2⟩ := agg_arg hT (startG (sizes W)) ks24.1 (by rw [ks24.2]; rfl) (hval 3 24 v3 rfl rfl) h3
  rw [ks22.2] at a1 a4 b1 b4
  rw [ks24.2] at c2 e2
  obtain ⟨l, rfl⟩ := rows_map fun q hq => th_of (a4 q hq)
  obtain ⟨k, rfl⟩ := rows_map fun q hq => th_of (b4 q hq)
  obtain ⟨x0, x1, x2, x3, rfl⟩ := four_of c2
  obtain ⟨y0, y1, y2, y3, rfl⟩ := four_of e2
  obtain ⟨N, hr⟩ := runs3 n m l k x0 x1 x2 x3 y0 y1 y2 y3 (by simpa [maxLen] using a3) (by simpa [maxLen] using b3)
  have hc : Calls Try.prog 3 #[v0, v1, v2, v3] W fun e w' => e = .returned (.bool true) ∧ Older W w' :=
    law_calls (mrk := sizes W) (vals := [v0, v1, v2, v3]) baseA (by decide) hr (sizes_ok W)
      ⟨rfl, fun i x hx => by
        match i, hx with
        | 0, hx => cases hx; exact ⟨_, rfl, a1⟩
        | 1, hx => cases hx; exact ⟨_, rfl, b1⟩
        | 2, hx => cases hx; exact ⟨_, rfl, c1⟩
        | 3, hx => cases hx; exact ⟨_, rfl, e1⟩
        | i + 4, hx => cases hx⟩ (fun x hx => by
        simp only [List.mem_cons, List.not_mem_nil, or_false] at hx
        rcases hx with rfl | rfl | rfl | rfl <;> rfl)
  refine hc.mono fun e W' ⟨he, hw⟩ => ?_
  subst he
  have hb := hw.below
  exact ⟨_, rfl, _, _, _, [], _, [], hW', trodAll_mk1 (shut_bool Try.underlying4 true),
    trodAll_mk4 (Below.trod Try.laid (by kernel_rfl) (of_decide_eq_true (by kernel_rfl)) h0 hb fun x hx => hlt x (by simp [hx]))
      (Below.trod Try.laid (by kernel_rfl) (of_decide_eq_true (by kernel_rfl)) h1 hb fun x hx => hlt x (by simp [hx]))
      (Below.trod Try.laid (by kernel_rfl) (of_decide_eq_true (by kernel_rfl)) h2 hb fun x hx => hlt x (by simp [hx]))
      (Below.trod Try.laid (by kernel_rfl) (of_decide_eq_true (by kernel_rfl)) h3 hb fun x hx => hlt x (by simp [hx])), rfl, hw.kept _, fun h => by cases h⟩

theorem diffFolds_holds : Rows.DiffFoldsSaid :=
  OpenClaim.holds_of_wide 3 Try.f3 rfl rfl rfl rfl rfl rfl rfl ⟨rfl, rfl, rfl, rfl, rfl⟩ rfl rfl rfl rfl rfl (by kernel_rfl) Try.func3 closed3
    (of_decide_eq_true (by kernel_rfl)) (by unfold Func.isWrapper; first | (rw [if_pos (by decide +kernel)]; kernel_rfl) | (rw [if_neg (by decide +kernel)]; exact ⟨rfl, rfl⟩))
    (fun os started H enc _ => diffFolds_lifted os started H enc)
end Go.Proofs.Ytmekbgeknkknfaa
