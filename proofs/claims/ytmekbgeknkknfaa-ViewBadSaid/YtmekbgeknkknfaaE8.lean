/- ViewBad answers true at every input, and its arguments read as they did. No condition. -/
import Derived.Test.YtmekbgeknkknfaaRows
import Derived.Test.YtmekbgeknkknfaaV3
import Derived.Test.YtmekbgeknkknfaaE8c
import Derived.ProofKit
namespace Go.Ab
open Go.Proofs
theorem s8_val (x y : Int) : (s8 [.int .u8 x, .int .u8 y] []).val = (Dt.opt (v8 x y) (sd8 x y)).val := by kernel_rfl
theorem runs8 {x y : Int} (hx0 : 0 ≤ x) (hx1 : x ≤ 255) (hy0 : 0 ≤ y) (hy1 : y ≤ 255) : ∃ H', Runs TA 8 [.int .u8 x, .int .u8 y] [] (.bool true, H') := by
  obtain ⟨r, hr⟩ := v8_true hx0 hx1 hy0 hy1
  refine ⟨(sh8 x y (true, r)).2, k8 _ _ _ ?_⟩
  rw [s8_val, hr]
  rfl
end Go.Ab

namespace Go.Proofs.Ytmekbgeknkknfaa
open Go.ChangeShapes Go.WideShapes Go.ChangeAt Go.RowKit Go.Ab

theorem Try.own : ownKnob Try.prog.godebug = none := by kernel_rfl
theorem u8_has {n : Int} (h : (Lit.int .u8 n).wf = true) : 0 ≤ n ∧ n ≤ 255 := by
  simp only [Lit.wf, Bool.and_eq_true, decide_eq_true_eq, IntKind.min, IntKind.max, IntKind.signed] at h
  have h1 := h.1
  have h2 := h.2
  constructor
  · simpa using h1
  · simpa [IntKind.bits] using h2

set_option maxRecDepth 100000 in
theorem viewBad_lifted (os : Os) (started : os.Started) (H : Type) (enc : TypeId × Value → H) :
    ReturnsInHanded {} Try.checked os 8 .any (Rows.viewBadSpec.pre6 enc Try.prog Try.f8 Rows.viewBadRow.domain false) (Rows.viewBadSpec.post enc Try.prog Try.f8 false true false false) := by
  refine returnsInHanded_of_change (C := Try.checked) Try.own started (by kernel_rfl) Try.func8
    (ChangeSpec.witness6 (enc := enc) (C := Try.checked) false ⟨#[], #[.int .u8 0, .int .u8 0], []⟩ 8 (by kernel_rfl) (by kernel_rfl) (by kernel_rfl) (by kernel_rfl)) ?_
  intro W base args ds gs before hval0 hW hcnd _
  have hval : ∀ (j : Nat) t v, Try.f8.params[j]? = some t → args[j]? = some v → Value.okWide Try.prog W .any base t v := hval0
  have hW' := hW
  obtain ⟨p, q, hA0, hV, rfl, hfz, hnd⟩ := hW
  have hA : DataW.TrodAll enc Try.prog W 0 (fun _ => true) true Try.f8.params.toList args.toList ds p := hA0
  rw [Try.params8] at hA hval
  obtain ⟨v0, v1, d0, d1, p0, p1, rfl, rfl, rfl, h0, h1⟩ := trodAll_two hA
  obtain ⟨rfl, rfl⟩ := trodVars_none hV
  obtain ⟨a, rfl, rfl, rfl, wa⟩ := open_int Try.underlying5 (hval 0 5 v0 rfl rfl) h0
  obtain ⟨b, rfl, rfl, rfl, wb⟩ := open_int Try.underlying5 (hval 1 5 v1 rfl rfl) h1
  clear hA0 hval0
  simp only [List.append_nil] at hW'
  obtain ⟨a0, a1⟩ := u8_has wa
  obtain ⟨b0, b1⟩ := u8_has wb
  obtain ⟨H', N, hr⟩ := runs8 a0 a1 b0 b1
  have hc : Calls Try.prog 8 #[.int .u8 a, .int .u8 b] W fun e w' => e = .returned (.bool true) ∧ Older W w' :=
    law_calls (mrk := fun _ => 0) (vals := [.int .u8 a, .int .u8 b]) baseA (by decide) hr (fun b h => absurd rfl h)
      ⟨rfl, fun i x hx => by
        rcases i with _ | _ | i
        · cases hx; exact ⟨_, rfl, .int .u8 a⟩
        · cases hx; exact ⟨_, rfl, .int .u8 b⟩
        · cases hx⟩ (fun x hx => by
        rcases List.mem_cons.1 hx with rfl | hx
        · rfl
        · rcases List.mem_cons.1 hx with rfl | hx
          · rfl
          · cases hx)
  refine hc.mono fun e W' ⟨he, hw⟩ => ?_
  subst he
  exact ⟨_, rfl, _, _, _, [], [], [], hW', trodAll_mk1 (shut_bool Try.underlying4 true), trodAll_mk2 (shut_int Try.underlying5 wa) (shut_int Try.underlying5 wb), rfl, hw.kept _, fun h => by cases h⟩

theorem viewBad_holds : Rows.ViewBadSaid :=
  OpenClaim.holds_of_wide 8 Try.f8 rfl rfl rfl rfl rfl rfl rfl ⟨rfl, rfl, rfl, rfl, rfl⟩ rfl rfl rfl rfl rfl (by kernel_rfl) Try.func8 closed8
    (of_decide_eq_true (by kernel_rfl)) (by unfold Func.isWrapper; first | (rw [if_pos (by decide +kernel)]; kernel_rfl) | (rw [if_neg (by decide +kernel)]; exact ⟨rfl, rfl⟩))
    (fun os started H enc _ => viewBad_lifted os started H enc)
end Go.Proofs.Ytmekbgeknkknfaa
