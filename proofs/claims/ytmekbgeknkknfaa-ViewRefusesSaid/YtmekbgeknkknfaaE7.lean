/- ViewRefuses answers true at every input, and its arguments read as they did. No condition. -/
import Derived.Test.YtmekbgeknkknfaaRows
import Derived.Test.YtmekbgeknkknfaaD3
import Derived.Test.YtmekbgeknkknfaaE7c
import Derived.ProofKit
namespace Go.Proofs.Ytmekbgeknkknfaa
open Go.ChangeShapes Go.WideShapes Go.ChangeAt Go.RowKit Go.Ab

theorem Try.own : ownKnob Try.prog.godebug = none := by kernel_rfl

theorem viewRefuses_calls (a b : Int) (ha : 0 ≤ a) (hb : 0 ≤ b) (W : World) : Calls Try.prog 7 #[.int .u8 a, .int .u8 b] W fun e w' => e = .returned (.bool true) ∧ Older W w' := by
  have h := law7 a b ha hb
  cases hc : callN TV 100 7 [.int .u8 a, .int .u8 b] [] with
  | none => rw [hc] at h; cases h
  | some p =>
    obtain ⟨v, H'⟩ := p
    rw [hc] at h
    simp only [Option.map_some, Option.some.injEq] at h
    subst h
    exact law_calls (mrk := fun _ => 0) (vals := [.int .u8 a, .int .u8 b]) baseV (by decide) hc (fun b h => absurd rfl h)
      ⟨rfl, fun i x hx => by
        rcases i with _ | _ | i
        · cases hx; exact ⟨_, rfl, .int .u8 a⟩
        · cases hx; exact ⟨_, rfl, .int .u8 b⟩
        · cases hx⟩ (fun x hx => by
        rcases List.mem_cons.1 hx with rfl | hx
        · rfl
        · rcases List.mem_cons.1 hx with rfl | hx
          · rfl
          · cases hx)

theorem u8_nonneg {n : Int} (h : (Lit.int .u8 n).wf = true) : 0 ≤ n := by
  simp only [Lit.wf, Bool.and_eq_true, decide_eq_true_eq, IntKind.min, IntKind.signed] at h
  have := h.1
  simpa using this

set_option maxRecDepth 100000 in
theorem viewRefuses_lifted (os : Os) (started : os.Started) (H : Type) (enc : TypeId × Value → H) :
    ReturnsInHanded {} Try.checked os 7 .any (Rows.viewRefusesSpec.pre6 enc Try.prog Try.f7 Rows.viewRefusesRow.domain false) (Rows.viewRefusesSpec.post enc Try.prog Try.f7 false true false false) := by
  refine returnsInHanded_of_change (C := Try.checked) Try.own started (by kernel_rfl) Try.func7
    (ChangeSpec.witness6 (enc := enc) (C := Try.checked) false ⟨#[], #[.int .u8 0, .int .u8 0], []⟩ 8 (by kernel_rfl) (by kernel_rfl) (by kernel_rfl) (by kernel_rfl)) ?_
  intro W base args ds gs before hval0 hW hcnd _
  have hval : ∀ (j : Nat) t v, Try.f7.params[j]? = some t → args[j]? = some v → Value.okWide Try.prog W .any base t v := hval0
  have hW' := hW
  obtain ⟨p, q, hA0, hV, rfl, hfz, hnd⟩ := hW
  have hA : DataW.TrodAll enc Try.prog W 0 (fun _ => true) true Try.f7.params.toList args.toList ds p := hA0
  rw [Try.params7] at hA hval
  obtain ⟨v0, v1, d0, d1, p0, p1, rfl, rfl, rfl, h0, h1⟩ := trodAll_two hA
  obtain ⟨rfl, rfl⟩ := trodVars_none hV
  obtain ⟨a, rfl, rfl, rfl, wa⟩ := open_int Try.underlying5 (hval 0 5 v0 rfl rfl) h0
  obtain ⟨b, rfl, rfl, rfl, wb⟩ := open_int Try.underlying5 (hval 1 5 v1 rfl rfl) h1
  clear hA0 hval0
  simp only [List.append_nil] at hW'
  refine (viewRefuses_calls a b (u8_nonneg wa) (u8_nonneg wb) W).mono fun e W' ⟨he, hw⟩ => ?_
  subst he
  exact ⟨_, rfl, _, _, _, [], [], [], hW', trodAll_mk1 (shut_bool Try.underlying4 true), trodAll_mk2 (shut_int Try.underlying5 wa) (shut_int Try.underlying5 wb), rfl, hw.kept _, fun h => by cases h⟩

theorem viewRefuses_holds : Rows.ViewRefusesSaid :=
  OpenClaim.holds_of_wide 7 Try.f7 rfl rfl rfl rfl rfl rfl rfl ⟨rfl, rfl, rfl, rfl, rfl⟩ rfl rfl rfl rfl rfl (by kernel_rfl) Try.func7 closed7
    (of_decide_eq_true (by kernel_rfl)) (by unfold Func.isWrapper; first | (rw [if_pos (by decide +kernel)]; kernel_rfl) | (rw [if_neg (by decide +kernel)]; exact ⟨rfl, rfl⟩))
    (fun os started H enc _ => viewRefuses_lifted os started H enc)
end Go.Proofs.Ytmekbgeknkknfaa
