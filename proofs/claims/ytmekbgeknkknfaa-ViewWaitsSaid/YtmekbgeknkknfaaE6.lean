/- ViewWaits answers true at every input, and its arguments read as they did. No condition. -/
import Derived.Test.YtmekbgeknkknfaaRows
import Derived.Test.YtmekbgeknkknfaaV5
import Derived.Test.YtmekbgeknkknfaaE6c
import Derived.ProofKit
namespace Go.Ab
open Go.Proofs
theorem s6_val (x y z : Int) : (s6 [.int .u8 x, .int .u8 y, .int .u8 z] []).val = (Dt.opt (v6 x y z) (sd6 x y z)).val := by kernel_rfl
theorem runs6 {x y z : Int} (hx0 : 0 ≤ x) (hx1 : x ≤ 255) (hy0 : 0 ≤ y) (hy1 : y ≤ 255) (hz0 : 0 ≤ z) (hz1 : z ≤ 255) : ∃ H', Runs TA 6 [.int .u8 x, .int .u8 y, .int .u8 z] [] (.bool true, H') := by
  obtain ⟨r, hr⟩ := v6_true hx0 hx1 hy0 hy1 hz0 hz1
  refine ⟨(sh6 x y z (true, r)).2, k6 _ _ _ ?_⟩
  rw [s6_val, hr]
  rfl
end Go.Ab

namespace Go.Proofs.Ytmekbgeknkknfaa
open Go.ChangeShapes Go.WideShapes Go.ChangeAt Go.RowKit Go.Ab

theorem Try.own : ownKnob Try.prog.godebug = none := by kernel_rfl
theorem u8_has {n : Int} (h : (Lit.int .u8 n).wf = true) : 0 ≤ n ∧ n ≤ 255 := by
  simp only [Lit.wf, Bool.and_eq_true, decide_eq_true_eq, IntKind.min, IntKind.max, IntKind.signed] at h
  have h1 := h.1
  have h2 := h.2
  constructor
  · simpa using h1
  · simpa [IntKind.bits] using h2

set_option maxRecDepth 100000 in
theorem viewWaits_lifted (os : Os) (started : os.Started) (H : Type) (enc : TypeId × Value → H) :
    ReturnsInHanded {} Try.checked os 6 .any (Rows.viewWaitsSpec.pre6 enc Try.prog Try.f6 Rows.viewWaitsRow.domain false) (Rows.viewWaitsSpec.post enc Try.prog Try.f6 false true false false) := by
  refine returnsInHanded_of_change (C := Try.checked) Try.own started (by kernel_rfl) Try.func6
    (ChangeSpec.witness6 (enc := enc) (C := Try.checked) false ⟨#[], #[.int .u8 0, .int .u8 0, .int .u8 0], []⟩ 8 (by kernel_rfl) (by kernel_rfl) (by kernel_rfl) (by kernel_rfl)) ?_
  intro W base args ds gs before hval0 hW hcnd _
  have hval : ∀ (j : Nat) t v, Try.f6.params[j]? = some t → args[j]? = some v → Value.okWide Try.prog W .any base t v := hval0
  have hW' := hW
  obtain ⟨p, q, hA0, hV, rfl, hfz, hnd⟩ := hW
  have hA : DataW.TrodAll enc Try.prog W 0 (fun _ => true) true Try.f6.params.toList args.toList ds p := hA0
  rw [Try.params6] at hA hval
  obtain ⟨v0, v1, v2, d0, d1, d2, p0, p1, p2, rfl, rfl, rfl, h0, h1, h2⟩ := trodAll_three hA
  obtain ⟨rfl, rfl⟩ := trodVars_none hV
  obtain ⟨a, rfl, rfl, rfl, wa⟩ := open_int Try.underlying5 (hval 0 5 v0 rfl rfl) h0
  obtain ⟨b, rfl, rfl, rfl, wb⟩ := open_int Try.underlying5 (hval 1 5 v1 rfl rfl) h1
  obtain ⟨c, rfl, rfl, rfl, wc⟩ := open_int Try.underlying5 (hval 2 5 v2 rfl rfl) h2
  clear hA0 hval0
  simp only [List.append_nil] at hW'
  obtain ⟨a0, a1⟩ := u8_has wa
  obtain ⟨b0, b1⟩ := u8_has wb
  obtain ⟨c0, c1⟩ := u8_has wc
  obtain ⟨H', N, hr⟩ := runs6 a0 a1 b0 b1 c0 c1
  have hc : Calls Try.prog 6 #[.int .u8 a, .int .u8 b, .int .u8 c] W fun e w' => e = .returned (.bool true) ∧ Older W w' :=
    law_calls (mrk := fun _ => 0) (vals := [.int .u8 a, .int .u8 b, .int .u8 c]) baseA (by decide) hr (fun b h => absurd rfl h)
      ⟨rfl, fun i x hx => by
        match i, hx with
        | 0, hx => cases hx; exact ⟨_, rfl, .int .u8 a⟩
        | 1, hx => cases hx; exact ⟨_, rfl, .int .u8 b⟩
        | 2, hx => cases hx; exact ⟨_, rfl, .int .u8 c⟩
        | i + 3, hx => cases hx⟩ (fun x hx => by
        simp only [List.mem_cons, List.not_mem_nil, or_false] at hx
        rcases hx with rfl | rfl | rfl <;> rfl)
  refine hc.mono fun e W' ⟨he, hw⟩ => ?_
  subst he
  exact ⟨_, rfl, _, _, _, [], [], [], hW', trodAll_mk1 (shut_bool Try.underlying4 true), trodAll_mk3 (shut_int Try.underlying5 wa) (shut_int Try.underlying5 wb) (shut_int Try.underlying5 wc), rfl, hw.kept _, fun h => by cases h⟩

theorem viewWaits_holds : Rows.ViewWaitsSaid :=
  OpenClaim.holds_of_wide 6 Try.f6 rfl rfl rfl rfl rfl rfl rfl ⟨rfl, rfl, rfl, rfl, rfl⟩ rfl rfl rfl rfl rfl (by kernel_rfl) Try.func6 closed6
    (of_decide_eq_true (by kernel_rfl)) (by unfold Func.isWrapper; first | (rw [if_pos (by decide +kernel)]; kernel_rfl) | (rw [if_neg (by decide +kernel)]; exact ⟨rfl, rfl⟩))
    (fun os started H enc _ => viewWaits_lifted os started H enc)
end Go.Proofs.Ytmekbgeknkknfaa
