/- slices.Delete, walked. -/
import Derived.Test.YtmekbgeknkknfaaChecked
import Derived.Shelf.RegionOpenPlain
import Derived.WalkKit
import Derived.Lib.Walk
import Derived.Lib.SliceRun
import Derived.Lib.JoinLaws
import Derived.Lib.AppendZeros
import Derived.Lib.Overlaps
import Derived.Laws.Externs
import Derived.Laws.IdiomCopy
import Derived.Deep.AppendSrc
set_option linter.unusedVariables false
set_option linter.unusedSimpArgs false
set_option linter.unusedSectionVars false
set_option linter.constructorNameAsVariable false
set_option linter.unusedVariables false
set_option linter.unusedSimpArgs false
namespace Go.Proofs
open Go.Shelf Go.RowKit Go.Lib

def insV : Value := .agg #[.int .i64 0, .int .i64 0, .int .i64 0, .int .i64 0, .string .empty, .int .i64 0, .string .empty, .int .i64 0, .string .empty, .int .i64 0, .string .empty]
theorem insMixed : Try.prog.follows .mixedOrders = true := by kernel_rfl
theorem insInfo : (Try.prog.info? 36).map (fun i => (i.zero, i.size, i.bytes)) = some (some insV, 11, 120) := by kernel_rfl

def insZ : List Value := [.int .i64 0, .int .i64 0, .int .i64 0, .int .i64 0, .string .empty, .int .i64 0, .string .empty, .int .i64 0, .string .empty, .int .i64 0, .string .empty]

section
variable {P : Program}
/-- A builtin of two arguments whose run is known, as a step of a region that draws. -/
theorem step_b2 {ops : Array Oper} {o : Oper} {a : Act} {w : World} {K : Act → World → Prop} {Q : Exit → Act → World → Prop} {E : Prop}
    (hg : o.guard = none) (d x : Operand) (dT sT : TypeId) (hop : o.op = Op.call { callee := Callee.builtin Builtin.append, args := #[d, x], argTypes := #[dT, sT] })
    (v u : Value) (hd : a.eval d = v) (hx : a.eval x = u) {v' : Value} {w' : World} (hr : (Builtin.append_ #[dT, sT] o.type #[v, u]).run P w = .ok v' w') (hK : K (a.put o.dst v') w') :
    if Region.wanted o (yielded ops a.tmps) = true then Oper.wp P o a w K Q else E := by
  have hw : Region.wanted o (yielded ops a.tmps) = true := by simp [Region.wanted, hg]
  rw [if_pos hw]
  unfold Oper.wp
  simp [execOp, hop, resolve, invoke, builtin, hd, hx, hr, Result.andThen]
  exact hK

/-- clear, where its run is known. -/
theorem wpList_clear_run {w : World} {ops : Array Oper} {rest : List Oper} {o : Oper} {a : Act} {Q : Exit → Act → World → Prop} (hgd : o.guard = none) (d : Operand) (t : TypeId)
    (ho : o.op = .call { callee := .builtin .clear, args := #[d], argTypes := #[t] }) (v : Value) (hd : a.eval d = v) {v' : Value} {w' : World}
    (hr : (Builtin.clear_ #[t] o.type #[v]).run P w = .ok v' w') (h : wpList P ops Q rest (a.put o.dst v') w') : wpList P ops Q (o :: rest) a w :=
  wpList_plain hgd fun _ hK => by
    unfold Oper.wp execOp
    simp only [ho, resolve, invoke, builtin, Sem.run_bind, Sem.run_pure, Result.andThen_ok, List.map_toArray, List.map_cons, List.map_nil, hd, hr]
    exact hK _ _ h

theorem isSome_setCells' (b : Nat) (vs : List Value) (o : Nat) (w : World) (h : ∀ j, j < vs.length → (w.cell? ⟨b, o + j, none⟩).isSome = true) (k : Nat) (hk : (w.cell? ⟨b, k, none⟩).isSome = true) : ((w.setCells b o vs).cell? ⟨b, k, none⟩).isSome = true := by
  by_cases hin : o ≤ k ∧ k < o + vs.length
  · have := World.cell?_setCells_in b vs o w h (k - o) (by omega)
    rw [show o + (k - o) = k by omega] at this
    rw [this]; rfl
  · rw [World.cell?_setCells_out b vs o w ⟨b, k, none⟩ (fun _ _ => by show k < o ∨ o + vs.length ≤ k; omega)]
    exact hk

theorem run_clear_one (w : World) (t e ty : TypeId) (z : Value) (zs : List Value) (ht : P.underlying t = some (.slice e)) (hv : ∀ w, (zeroValue e).run P w = .ok z w) (hz : (Builtin.zeroCells z.cells 1).toList = zs) (h1 : ∀ v ∈ zs, v.oneCell' = true) (b o c : Nat)
    (hc : ∀ j, j < zs.length → (w.cell? ⟨b, o + j, none⟩).isSome = true) (hf : ∀ j, j < zs.length → w.frozen? ⟨b, o + j, none⟩ = false) :
    (Builtin.clear_ #[t] ty #[.slice (some ⟨b, o, none⟩) 1 c]).run P w = .ok (.tuple #[]) (w.setCells b o zs) := by
  have hst := run_storeCells_cells (P := P) b o zs 0 w (by simpa using hc) (by simpa using hf) h1
  simp only [Nat.add_zero] at hst
  simp [Builtin.clear_, run_underlying ht, hv, hz, hst]
end

theorem insZ_cells : (Builtin.zeroCells insV.cells 1).toList = insZ := by kernel_rfl
theorem insZ_one : ∀ v ∈ insZ, v.oneCell' = true := by simp [insZ, Value.oneCell']

set_option maxHeartbeats 4000000 in
set_option maxRecDepth 100000 in
theorem del_walk (b n i c : Nat) (vs : List Value) (w : World) (hi : i < n) (hn : n ≤ c) (hc63 : n ≤ 268435456) (hv : vs.length = n * 11)
    (hcs : ∀ j v, vs[j]? = some v → w.cell? ⟨b, j, none⟩ = some v) (hfz : ∀ j, j < n * 11 → w.frozen? ⟨b, j, none⟩ = false) (h1 : ∀ v ∈ vs, v.oneCell' = true) :
    Calls Try.prog 114 #[.slice (some ⟨b, 0, none⟩) n c, .int .i64 i, .int .i64 ((i : Int) + 1)] w fun e w' => e = .returned (.slice (some ⟨b, 0, none⟩) (n - 1) c) ∧
      w' = (w.drew.setCells b (i * 11) (vs.drop ((i + 1) * 11))).setCells b ((n - 1) * 11) insZ := by
  have u22 := Try.underlying22
  obtain ⟨i0, hi0, hz0, hzs, hzb⟩ := info_parts insInfo
  have hdl : (vs.drop ((i + 1) * 11)).length = (n - (i + 1)) * 11 := by rw [List.length_drop, hv]; omega
  have hsrc : ∀ o0 c0, (c = i + 1 ∨ o0 = (i + 1) * 11) → Src Try.prog i0.size 22 (.slice (some ⟨b, o0, none⟩) (n - (i + 1)) c0) (n - (i + 1)) (vs.drop ((i + 1) * 11)) w.drew := fun o0 c0 ho => by
    rw [hzs]
    refine Src.ofSlice _ u22 _ _ _ _ hdl (fun j u hj => ?_) (fun u hu => h1 u (List.mem_of_mem_drop hu))
    have hlt : j < (vs.drop ((i + 1) * 11)).length := by
      rcases Nat.lt_or_ge j (vs.drop ((i + 1) * 11)).length with h | h
      · exact h
      · rw [List.getElem?_eq_none h] at hj; cases hj
    rcases ho with ho | rfl
    · omega
    · rw [List.getElem?_drop] at hj
      have := hcs _ u hj
      rw [Addr.add_lit]
      exact this
  have hcell : ∀ j, j < n * 11 → (w.cell? ⟨b, j, none⟩).isSome = true := fun j hj => by
    have : vs[j]? = some vs[j] := List.getElem?_eq_getElem (by omega)
    rw [hcs j _ this]; rfl
  have hap : ∀ ty o0 c0, (c = i + 1 ∨ o0 = (i + 1) * 11) → (Builtin.append_ #[22, 22] ty #[.slice (some ⟨b, 0, none⟩) i c, .slice (some ⟨b, o0, none⟩) (n - (i + 1)) c0]).run Try.prog w.drew = .ok (.slice (some ⟨b, 0, none⟩) (n - 1) c) (w.drew.setCells b (i * 11) (vs.drop ((i + 1) * 11))) := fun ty o0 c0 ho => by
    rw [run_append_room_src w.drew 22 22 ty 36 i0 u22 hi0 b 0 i c _ _ _ (hsrc o0 c0 ho) (by omega) (fun j hj => by rw [hzs, Nat.zero_add]; exact hcell _ (by omega)) (fun j hj => by rw [hzs, Nat.zero_add]; exact hfz _ (by omega))]
    rw [hzs, Nat.zero_add, show i + (n - (i + 1)) = n - 1 by omega]
  have hcl : ∀ ty, (Builtin.clear_ #[22] ty #[.slice (some ⟨b, (n - 1) * 11, none⟩) (n - (n - 1)) (c - (n - 1))]).run Try.prog (w.drew.setCells b (i * 11) (vs.drop ((i + 1) * 11))) = .ok (.tuple #[]) ((w.drew.setCells b (i * 11) (vs.drop ((i + 1) * 11))).setCells b ((n - 1) * 11) insZ) := fun ty => by
    rw [show n - (n - 1) = 1 by omega]
    refine run_clear_one _ 22 36 ty insV insZ u22 (fun w => by simp [zeroValue, typeInfo, hi0, hz0]) insZ_cells insZ_one b _ _ (fun j hj => ?_) (fun j hj => ?_)
    · have hj' : j < 11 := hj
      exact isSome_setCells' b _ _ w.drew (fun k hk => hcell _ (by omega)) _ (hcell _ (by omega))
    · have hj' : j < 11 := hj
      rw [World.frozen?_setCells]
      exact hfz _ (by omega)
  have mixed := insMixed
  have hic : i ≤ c := by omega
  have hcast : ((i : Int) + 1) = ((i + 1 : Nat) : Int) := by omega
  rw [hcast]
  generalize hm : i + 1 = m at *
  have h1' : ¬ (i = m) := by omega
  have h2' : m ≤ n := by omega
  have h3' : m ≤ c := by omega
  have h4' : i ≤ m := by omega
  by_cases hcm : c = m
  · subst hcm
    obtain rfl : n = c := by omega
    have hap1 : ∀ ty, (Builtin.append_ #[22, 22] ty #[.slice (some ⟨b, 0, none⟩) i n, .slice (some ⟨b, 0, none⟩) 0 0]).run Try.prog w.drew = .ok (.slice (some ⟨b, 0, none⟩) (n - 1) n) (w.drew.setCells b (i * 11) (vs.drop (n * 11))) := by
      intro ty
      have := hap ty 0 0 (.inl rfl)
      rw [Nat.sub_self] at this
      exact this
    clear hap hsrc
    go_enter Try.func114, Try.ntmps114
    go_wp2_with fail
    go_region_law_o (refine step_b2 (by rfl) _ _ 22 22 (by rfl) _ _ (by simp [Act.eval, Act.put]) (by simp [Act.eval, Act.put]) (hap1 22) ?_)
    go_wp2_with (refine wpList_clear_run (by rfl) _ 22 (by rfl) _ (by rfl) (hcl _) ?_)
    go_ret
    exact ⟨rfl, rfl⟩
  · have hap1 := fun ty => hap ty (m * 11) (c - m) (.inr rfl)
    clear hap hsrc
    go_enter Try.func114, Try.ntmps114
    go_wp2_with fail
    go_region_law_o (refine step_b2 (by rfl) _ _ 22 22 (by rfl) _ _ (by simp [Act.eval, Act.put]) (by simp [Act.eval, Act.put]) (hap1 22) ?_)
    go_wp2_with (refine wpList_clear_run (by rfl) _ 22 (by rfl) _ (by rfl) (hcl _) ?_)
    go_ret
    exact ⟨rfl, rfl⟩
end Go.Proofs
