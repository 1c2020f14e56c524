/- From what the evaluator says to what a call does; code in pieces. -/
import Derived.Test.YtmekbgeknkknfaaH1
namespace Go.Ab
open Go.Proofs

/-- What the run knows at the start: nothing is its own. -/
def startG (mrk : Nat → Nat) : Gh := ⟨fun _ => none, [], mrk, fun _ => .no, false⟩

theorem start_wf {w : World} {mrk : Nat → Nat} (hm : ∀ b, mrk b ≠ 0 → ∃ arr e fr, w.heap[b]? = some (.cells arr e fr) ∧ mrk b ≤ arr.size) : WF (startG mrk) w where
  inj := fun _ _ _ h => by cases h
  lbgb := fun _ _ h => by cases h
  nd := List.nodup_nil
  ltl := fun _ _ h => by cases h
  ltg := fun _ h => by cases h
  mrl := fun _ _ h => by cases h
  mrg := fun _ h => by cases h
  mrb := hm
  owlt := fun _ h => absurd rfl h

theorem start_hrel {w : World} {mrk : Nat → Nat} : HRel (startG mrk) w [] where
  len := rfl
  cells := fun k _ h => by simp at h
  maps := fun k _ h => by simp at h

/-- Old memory is as it was. -/
structure Older (w w' : World) : Prop where
  size : w.heap.size ≤ w'.heap.size
  old : ∀ b : Nat, b < w.heap.size → w'.heap[b]? = w.heap[b]?
  os : w'.os = w.os
  out : w'.output = w.output
  tape : w'.tape = w.tape

theorem law_calls {T : Tab} {P : Program} {ok : Nat → Nat → Array Oper → Bool} (hB : Base T P ok) {n f : Nat} {args : List AV} {vals : List Value} {b : Bool} {H' : List GB} {w : World} {mrk : Nat → Nat} (hf : f < 1000000)
    (h : callN T n f args [] = some (.bool b, H')) (hm : ∀ b, mrk b ≠ 0 → ∃ arr e fr, w.heap[b]? = some (.cells arr e fr) ∧ mrk b ≤ arr.size) (hargs : ArgsR (startG mrk) w args vals) (hown : ∀ x ∈ args, x.slOwn = .no) :
    Calls P f vals.toArray w fun e w' => e = .returned (.bool b) ∧ Older w w' := by
  obtain ⟨f1, f2⟩ := realF_lt hf
  obtain ⟨_, h2⟩ := (sem_sound hB n).1 f args [] (.bool b) H' (startG mrk) w vals h hargs hown (fun _ => rfl) (start_wf hm) start_hrel f2.symm
  rw [f1] at h2
  refine h2.mono fun e w' he => ?_
  cases e with
  | returned r =>
    obtain ⟨g', q1, q2, q3, q4, q5, q6⟩ := he
    cases q4
    exact ⟨rfl, ⟨q1.size, fun b hb => (q1.keep b hb (fun _ h => by cases h) (by simp [startG]) rfl).1, q1.os, q1.out, q1.tape⟩⟩
  | panicked ch => exact he.elim
  | outgrown => exact he.elim

theorem Older.kept {w w' : World} (h : Older w w') (may : MemPlace → Prop) : w.keptBut w' may := by
  refine ⟨h.os, h.out, fun i hi => ?_⟩
  rw [h.old i hi]
  cases w.heap[i]? with
  | none => rfl
  | some o =>
    cases o with
    | cells c t fr => exact ⟨rfl, rfl, rfl, fun _ _ => rfl⟩
    | map es clk => exact .inr ⟨rfl, rfl⟩
    | _ => rfl

section
variable {T : Tab} {C : Nat → List AV → List GB → Option (AV × List GB)} {Lp : Nat → Nat → Code → St → Option (Ex × St)} {fid : Nat}

theorem den_seq (x y : Code) (st : St) : den C Lp (evCode T fid (.seq x y) st) = (den C Lp (evCode T fid x st)).bind fun p => match p with | (.normal, st) => den C Lp (evCode T fid y st) | p => some p := by
  rw [evCode_seq, den_bind]
  congr 1
  funext p
  obtain ⟨e, st⟩ := p
  cases e <;> rfl

theorem den_assoc (x y z : Code) (st : St) : den C Lp (evCode T fid ((x.seq y).seq z) st) = den C Lp (evCode T fid (x.seq (y.seq z)) st) := by
  rw [den_seq, den_seq, den_seq]
  cases den C Lp (evCode T fid x st) with
  | none => rfl
  | some p =>
    obtain ⟨e, st1⟩ := p
    cases e with
    | normal =>
      simp only [Option.bind_some]
      rw [den_seq]
    | exit i => rfl
    | ret => rfl

theorem den_seq_of {x y : Code} {st st1 : St} {r : Option (Ex × St)} (h : den C Lp (evCode T fid x st) = some (.normal, st1)) (h2 : den C Lp (evCode T fid y st1) = r) : den C Lp (evCode T fid (x.seq y) st) = r := by
  rw [den_seq, h]
  exact h2

theorem den_seq_congr {x x' y : Code} {st : St} {r : Option (Ex × St)} (h : den C Lp (evCode T fid x st) = den C Lp (evCode T fid x' st)) (h2 : den C Lp (evCode T fid (x'.seq y) st) = r) : den C Lp (evCode T fid (x.seq y) st) = r := by
  rw [den_seq, h, ← den_seq]
  exact h2
end

/-- Pieces of code. -/
def seqL : Code → Code | .seq a _ => a | c => c
def seqR : Code → Code | .seq _ b => b | c => c
def setOp (c : Code) (i : Nat) (op : Op) : Code :=
  match c with
  | .region id ops d => .region id (ops.toList.set i { (ops.toList.getD i default) with op }).toArray d
  | c => c
def bodyOf (f : Func) : Code := match f.body with | some c => c | none => .skip
/-- The first n pieces as one, and what comes behind them. -/
def firstN : Nat → Code → Code
  | 0, c => seqL c
  | n + 1, c => .seq (seqL c) (firstN n (seqR c))
def afterN : Nat → Code → Code
  | 0, c => seqR c
  | n + 1, c => afterN n (seqR c)
def deep : Nat → Code → Bool
  | 0, .seq _ _ => true
  | n + 1, .seq _ b => deep n b
  | _, _ => false

section
variable {T : Tab} {C : Nat → List AV → List GB → Option (AV × List GB)} {Lp : Nat → Nat → Code → St → Option (Ex × St)} {fid : Nat}
theorem den_split : ∀ (n : Nat) (c : Code), deep n c = true → ∀ st, den C Lp (evCode T fid c st) = den C Lp (evCode T fid ((firstN n c).seq (afterN n c)) st)
  | 0, c, h, st => by
    cases c <;> first | rfl | cases h
  | n + 1, c, h, st => by
    cases c with
    | seq a b =>
      have ih := den_split n b h
      show _ = den C Lp (evCode T fid ((a.seq (firstN n b)).seq (afterN n b)) st)
      rw [den_assoc, den_seq, den_seq]
      congr 1
      funext p
      obtain ⟨e, st1⟩ := p
      cases e <;> first | rfl | exact ih st1
    | _ => cases h

/-- What comes behind a function's code. -/
noncomputable def finR (T : Tab) (fn : Func) (x : Ex × St) : R (AV × List GB) :=
  match x with
  | (.exit _, _) => .fail
  | (_, st) => (resVals T st fn.results.toList).bind fun vs => chk (vs.all AV.plainV) (.ret (resOf (resSz T fn) vs, st.H))

/-- The state at a function's start. -/
noncomputable def st0 (fn : Func) (args : List AV) (H : List GB) : St := { tm := args ++ List.replicate (fn.ntmps - args.length) .und, L := List.replicate fn.ntmps [], H, cons := [], conG := false, conL := false, ro := false }

theorem callN_eq {n f : Nat} {fn : Func} {c : Code} {args : List AV} {H : List GB} (hfn : T.fn f = some fn) (hb : fn.body = some c) (hro : Nat.ble 1000000 f = false) (hl : args.length ≤ fn.ntmps) :
    callN T (n + 1) f args H = (den (sem T n).1 (sem T n).2 (evCode T f c (st0 fn args H))).bind fun x => den (sem T n).1 (sem T n).2 (finR T fn x) := by
  show den (sem T n).1 (sem T n).2 (evFunc T f args H) = _
  unfold evFunc
  simp only [hro, cond_false, hfn, hb]
  rw [den_chk, show decide (args.length ≤ fn.ntmps) = true by simpa using hl, cond_true, den_bind]
  congr 1
  funext x
  obtain ⟨e, st⟩ := x
  cases e <;> rfl
end
end Go.Ab
