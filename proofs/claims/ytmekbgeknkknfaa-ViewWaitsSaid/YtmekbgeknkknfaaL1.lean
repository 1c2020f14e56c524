/- What functions of the program come to, as branches. Written by a program of this session's (gen.py, lift.py). -/
import Derived.Test.YtmekbgeknkknfaaK3
import Derived.KernelRfl
set_option linter.unusedVariables false
namespace Go.Ab
open Go.Proofs
/-! vedette/vedettelaw16.known -/
theorem n21 : (callN TA 200 21 [] []).map Prod.fst = some (.bool true) := by kernel_rfl
noncomputable def v21 : Option Unit := some ()
noncomputable def s21 : FS := guardS [] [] fun _ _ => Dt.opt v21 fun _ => .ret (.bool true, ((callN TA 200 21 [] []).getD default).2)
theorem k21 : FRight TA 21 s21 := closed_right n21

/-! vedette/vedettelaw16.fewField -/
noncomputable def un147 : Nat → Bool := fun _ => false
noncomputable def cs147 : List (Nat × FS) := []
theorem cr147 : CRight TA (cT cs147) := cT_right cT_nil
noncomputable def lt147 : LT := fun rid st => .fail
abbrev X147 : Type := Bool
noncomputable def d147 (x0_0 : Int) (s0_1 : List UInt8) : Dt X147 :=
  .ret (decide ((s0_1.length : Int) ≤ 40))
noncomputable def v147 (x0_0 : Int) (s0_1 : List UInt8) : Option X147 := (d147 x0_0 s0_1).val
noncomputable def sh147 (x0_0 : Int) (s0_1 : List UInt8) (x : X147) : AV × List GB := ((.bool x), [])
noncomputable def sd147 (x0_0 : Int) (s0_1 : List UInt8) (x : X147) : Dt (AV × List GB) := .ret ((.bool x), [])
noncomputable def s147 : FS := guardS [.agg [.i .i64, .s]] [] fun xs H => Dt.opt (v147 (nth (nth xs 0).cells 0).intOf (nth (nth xs 0).cells 1).strOf) (sd147 (nth (nth xs 0).cells 0).intOf (nth (nth xs 0).cells 1).strOf)
theorem e147 (x0_0 : Int) (s0_1 : List UInt8) (Q : AV × List GB → Prop) : wpN TA (cT cs147) lt147 un147 80 (evFunc TA 147 [(.agg [(.int .i64 x0_0), (.str s0_1)])] []) Q = (d147 x0_0 s0_1).wp (fun x => Q (sh147 x0_0 s0_1 x)) := by kernel_rfl
theorem o147 (x0_0 : Int) (s0_1 : List UInt8) : (d147 x0_0 s0_1).obs := by
  unfold d147
  repeat' (first | exact trivial | apply And.intro)
theorem k147 : FRight TA 147 s147 := fright (D := fun xs H => d147 (nth (nth xs 0).cells 0).intOf (nth (nth xs 0).cells 1).strOf) (sh := fun xs H => sh147 (nth (nth xs 0).cells 0).intOf (nth (nth xs 0).cells 1).strOf) cr147 (fun xs H Q => e147 (nth (nth xs 0).cells 0).intOf (nth (nth xs 0).cells 1).strOf Q) (fun xs H => o147 (nth (nth xs 0).cells 0).intOf (nth (nth xs 0).cells 1).strOf) (by intro xs H x r h; exact (Option.some.inj h).symm)
/-! vedette/vedettelaw16.fewThing -/
noncomputable def un84 : Nat → Bool := fun r => Nat.beq r 2
noncomputable def cs84 : List (Nat × FS) := [(147, s147)]
theorem cr84 : CRight TA (cT cs84) := cT_right (cT_cons k147 cT_nil)
noncomputable def lt84 : LT := fun rid st => .fail
abbrev X84 : Type := Bool
noncomputable def d84 (x0_0 : Int) (x0_1 : Int) (x0_2 : Int) (x0_3 : Int) (s0_4 : List UInt8) (x0_5 : Int) (s0_6 : List UInt8) (x0_7 : Int) (s0_8 : List UInt8) (x0_9 : Int) (s0_10 : List UInt8) : Dt X84 :=
  Dt.opt (v147 x0_3 s0_4) fun y1 =>
  .br (!y1)
  (.ret false)
  (Dt.opt (v147 x0_5 s0_6) fun y2 =>
    .br (!y2)
    (.ret false)
    (Dt.opt (v147 x0_7 s0_8) fun y3 =>
      .br (!y3)
      (.ret false)
      (Dt.opt (v147 x0_9 s0_10) fun y4 =>
        .br (!y4)
        (.ret false)
        (.ret true))))
noncomputable def v84 (x0_0 : Int) (x0_1 : Int) (x0_2 : Int) (x0_3 : Int) (s0_4 : List UInt8) (x0_5 : Int) (s0_6 : List UInt8) (x0_7 : Int) (s0_8 : List UInt8) (x0_9 : Int) (s0_10 : List UInt8) : Option X84 := (d84 x0_0 x0_1 x0_2 x0_3 s0_4 x0_5 s0_6 x0_7 s0_8 x0_9 s0_10).val
noncomputable def sh84 (x0_0 : Int) (x0_1 : Int) (x0_2 : Int) (x0_3 : Int) (s0_4 : List UInt8) (x0_5 : Int) (s0_6 : List UInt8) (x0_7 : Int) (s0_8 : List UInt8) (x0_9 : Int) (s0_10 : List UInt8) (x : X84) : AV × List GB := ((.bool x), [])
noncomputable def sd84 (x0_0 : Int) (x0_1 : Int) (x0_2 : Int) (x0_3 : Int) (s0_4 : List UInt8) (x0_5 : Int) (s0_6 : List UInt8) (x0_7 : Int) (s0_8 : List UInt8) (x0_9 : Int) (s0_10 : List UInt8) (x : X84) : Dt (AV × List GB) := .ret ((.bool x), [])
noncomputable def s84 : FS := guardS [.agg [.i .i64, .i .i64, .i .i64, .i .i64, .s, .i .i64, .s, .i .i64, .s, .i .i64, .s]] [] fun xs H => Dt.opt (v84 (nth (nth xs 0).cells 0).intOf (nth (nth xs 0).cells 1).intOf (nth (nth xs 0).cells 2).intOf (nth (nth xs 0).cells 3).intOf (nth (nth xs 0).cells 4).strOf (nth (nth xs 0).cells 5).intOf (nth (nth xs 0).cells 6).strOf (nth (nth xs 0).cells 7).intOf (nth (nth xs 0).cells 8).strOf (nth (nth xs 0).cells 9).intOf (nth (nth xs 0).cells 10).strOf) (sd84 (nth (nth xs 0).cells 0).intOf (nth (nth xs 0).cells 1).intOf (nth (nth xs 0).cells 2).intOf (nth (nth xs 0).cells 3).intOf (nth (nth xs 0).cells 4).strOf (nth (nth xs 0).cells 5).intOf (nth (nth xs 0).cells 6).strOf (nth (nth xs 0).cells 7).intOf (nth (nth xs 0).cells 8).strOf (nth (nth xs 0).cells 9).intOf (nth (nth xs 0).cells 10).strOf)
theorem e84 (x0_0 : Int) (x0_1 : Int) (x0_2 : Int) (x0_3 : Int) (s0_4 : List UInt8) (x0_5 : Int) (s0_6 : List UInt8) (x0_7 : Int) (s0_8 : List UInt8) (x0_9 : Int) (s0_10 : List UInt8) (Q : AV × List GB → Prop) : wpN TA (cT cs84) lt84 un84 80 (evFunc TA 84 [(.agg [(.int .i64 x0_0), (.int .i64 x0_1), (.int .i64 x0_2), (.int .i64 x0_3), (.str s0_4), (.int .i64 x0_5), (.str s0_6), (.int .i64 x0_7), (.str s0_8), (.int .i64 x0_9), (.str s0_10)])] []) Q = (d84 x0_0 x0_1 x0_2 x0_3 s0_4 x0_5 s0_6 x0_7 s0_8 x0_9 s0_10).wp (fun x => Q (sh84 x0_0 x0_1 x0_2 x0_3 s0_4 x0_5 s0_6 x0_7 s0_8 x0_9 s0_10 x)) := by kernel_rfl
theorem o84 (x0_0 : Int) (x0_1 : Int) (x0_2 : Int) (x0_3 : Int) (s0_4 : List UInt8) (x0_5 : Int) (s0_6 : List UInt8) (x0_7 : Int) (s0_8 : List UInt8) (x0_9 : Int) (s0_10 : List UInt8) : (d84 x0_0 x0_1 x0_2 x0_3 s0_4 x0_5 s0_6 x0_7 s0_8 x0_9 s0_10).obs := by
  unfold d84
  repeat' (first | exact trivial | apply And.intro)
theorem k84 : FRight TA 84 s84 := fright (D := fun xs H => d84 (nth (nth xs 0).cells 0).intOf (nth (nth xs 0).cells 1).intOf (nth (nth xs 0).cells 2).intOf (nth (nth xs 0).cells 3).intOf (nth (nth xs 0).cells 4).strOf (nth (nth xs 0).cells 5).intOf (nth (nth xs 0).cells 6).strOf (nth (nth xs 0).cells 7).intOf (nth (nth xs 0).cells 8).strOf (nth (nth xs 0).cells 9).intOf (nth (nth xs 0).cells 10).strOf) (sh := fun xs H => sh84 (nth (nth xs 0).cells 0).intOf (nth (nth xs 0).cells 1).intOf (nth (nth xs 0).cells 2).intOf (nth (nth xs 0).cells 3).intOf (nth (nth xs 0).cells 4).strOf (nth (nth xs 0).cells 5).intOf (nth (nth xs 0).cells 6).strOf (nth (nth xs 0).cells 7).intOf (nth (nth xs 0).cells 8).strOf (nth (nth xs 0).cells 9).intOf (nth (nth xs 0).cells 10).strOf) cr84 (fun xs H Q => e84 (nth (nth xs 0).cells 0).intOf (nth (nth xs 0).cells 1).intOf (nth (nth xs 0).cells 2).intOf (nth (nth xs 0).cells 3).intOf (nth (nth xs 0).cells 4).strOf (nth (nth xs 0).cells 5).intOf (nth (nth xs 0).cells 6).strOf (nth (nth xs 0).cells 7).intOf (nth (nth xs 0).cells 8).strOf (nth (nth xs 0).cells 9).intOf (nth (nth xs 0).cells 10).strOf Q) (fun xs H => o84 (nth (nth xs 0).cells 0).intOf (nth (nth xs 0).cells 1).intOf (nth (nth xs 0).cells 2).intOf (nth (nth xs 0).cells 3).intOf (nth (nth xs 0).cells 4).strOf (nth (nth xs 0).cells 5).intOf (nth (nth xs 0).cells 6).strOf (nth (nth xs 0).cells 7).intOf (nth (nth xs 0).cells 8).strOf (nth (nth xs 0).cells 9).intOf (nth (nth xs 0).cells 10).strOf) (by intro xs H x r h; exact (Option.some.inj h).symm)
/-! vedette/vedettelaw16.fewThings -/
noncomputable def un22 : Nat → Bool := fun _ => false
noncomputable def cs22 : List (Nat × FS) := [(84, s84)]
theorem cr22 : CRight TA (cT cs22) := cT_right (cT_cons k84 cT_nil)
noncomputable def c22_2 : Code := cB (cB (cR (cL (cR (bodyOf Try.f22)))))
abbrev P22_2 : Type := Int
abbrev Y22_2 : Type := Nat
noncomputable def d22_2 (n0 : Bool) (r0 : List (List AV)) (x3 : Int) : Dt (P22_2 ⊕ Y22_2) :=
  .br (decide (x3 < (r0.length : Int)))
  (.br (((decide (0 ≤ x3)) && (decide (x3 < (r0.length : Int)))) && true)
    (.br (epOk [(.i .i64), (.i .i64), (.i .i64), (.i .i64), .s, (.i .i64), .s, (.i .i64), .s, (.i .i64), .s] (r0.getD x3.toNat []) 0)
      (Dt.opt (v84 ((nth (r0.getD x3.toNat []) 0).intOf) ((nth (r0.getD x3.toNat []) 1).intOf) ((nth (r0.getD x3.toNat []) 2).intOf) ((nth (r0.getD x3.toNat []) 3).intOf) ((nth (r0.getD x3.toNat []) 4).strOf) ((nth (r0.getD x3.toNat []) 5).intOf) ((nth (r0.getD x3.toNat []) 6).strOf) ((nth (r0.getD x3.toNat []) 7).intOf) ((nth (r0.getD x3.toNat []) 8).strOf) ((nth (r0.getD x3.toNat []) 9).intOf) ((nth (r0.getD x3.toNat []) 10).strOf)) fun y1 =>
        .br (!y1)
        (.ret (.inr 0))
        (.ret (.inl (wrapF .i64 (x3 + 1))))) (.fail)) (.fail))
  (.ret (.inr 1))
noncomputable def w22_2 (n0 : Bool) (r0 : List (List AV)) (x3 : Int) : Option Y22_2 := loopV (fun p : P22_2 => d22_2 n0 r0 p) x3
noncomputable def hd22_2 (n0 : Bool) (r0 : List (List AV)) (x3 : Int) : St := (stAt 19 false [(0, (.sl 11 n0 r0 .no)), (3, (.int .i64 x3))] [] [])
noncomputable def ex22_2 (n0 : Bool) (r0 : List (List AV)) (x : Y22_2) : Ex × St := bif Nat.beq x 0 then (.ret, (stAt 19 false [(0, (.sl 11 n0 r0 .no)), (2, (.bool false))] [] [])) else ((.exit 0), (stAt 19 false [(0, (.sl 11 n0 r0 .no))] [] []))
noncomputable def xd22_2 (n0 : Bool) (r0 : List (List AV)) (x : Y22_2) : Dt (Ex × St) := .br (Nat.beq x 0) (.ret (.ret, (stAt 19 false [(0, (.sl 11 n0 r0 .no)), (2, (.bool false))] [] []))) (.ret ((.exit 0), (stAt 19 false [(0, (.sl 11 n0 r0 .no))] [] [])))
noncomputable def lt22 : LT := fun rid st => bif Nat.beq rid 2 then Dt.opt (w22_2 (nth st.tm 0).slNil (nth st.tm 0).slRows (nth st.tm 3).intOf) (xd22_2 (nth st.tm 0).slNil (nth st.tm 0).slRows) else .fail
theorem r22_2 (n0 : Bool) (r0 : List (List AV)) (p : P22_2) (Q : Ex × St → Prop) : wpN TA (cT cs22) lt22 un22 80 (roundR TA 22 2 c22_2 (hd22_2 n0 r0 p)) Q = (d22_2 n0 r0 p).wp (fun o => Sum.rec (fun p => Q (.normal, hd22_2 n0 r0 p)) (fun x => Q (ex22_2 n0 r0 x)) o) := by kernel_rfl
theorem ob22_2 (n0 : Bool) (r0 : List (List AV)) (p : P22_2) : (d22_2 n0 r0 p).obs := by
  unfold d22_2
  repeat' (first | exact trivial | apply And.intro)
theorem lok22_2 (n0 : Bool) (r0 : List (List AV)) (x3 : Int) : LoopOk TA 22 2 c22_2 (hd22_2 n0 r0 x3) (Dt.opt (w22_2 n0 r0 x3) (xd22_2 n0 r0)) :=
  loop_okD cr22 (fun p Q => r22_2 n0 r0 p Q) (fun p => ob22_2 n0 r0 p) (fun x => by
    unfold ex22_2
    repeat' (first | (intro h; cases h; done) | (generalize Nat.beq _ _ = b; cases b))) (fun x r h => by
    simp only [xd22_2, Dt.val_br, Dt.val_ret, ex22_2] at h ⊢
    revert h
    repeat' (first | (intro h; exact (Option.some.inj h).symm) | (generalize Nat.beq _ _ = b; cases b))) x3
abbrev X22 : Type := Bool
noncomputable def d22 (n0 : Bool) (r0 : List (List AV)) : Dt X22 :=
  .ob (LoopOk TA 22 2 c22_2 (hd22_2 n0 r0 0) (Dt.opt (w22_2 n0 r0 0) (xd22_2 n0 r0)))
  (Dt.opt (w22_2 n0 r0 0) fun y2 =>
    .br (Nat.beq y2 0)
    (.ret false)
    (.ret (decide ((r0.length : Int) ≤ 30))))
noncomputable def v22 (n0 : Bool) (r0 : List (List AV)) : Option X22 := (d22 n0 r0).val
noncomputable def sh22 (n0 : Bool) (r0 : List (List AV)) (x : X22) : AV × List GB := ((.bool x), [])
noncomputable def sd22 (n0 : Bool) (r0 : List (List AV)) (x : X22) : Dt (AV × List GB) := .ret ((.bool x), [])
noncomputable def s22 : FS := guardS [.c (.sl 11 .no)] [] fun xs H => Dt.opt (v22 (nth xs 0).slNil (nth xs 0).slRows) (sd22 (nth xs 0).slNil (nth xs 0).slRows)
theorem e22 (n0 : Bool) (r0 : List (List AV)) (Q : AV × List GB → Prop) : wpN TA (cT cs22) lt22 un22 80 (evFunc TA 22 [(.sl 11 n0 r0 .no)] []) Q = (d22 n0 r0).wp (fun x => Q (sh22 n0 r0 x)) := by kernel_rfl
theorem o22 (n0 : Bool) (r0 : List (List AV)) : (d22 n0 r0).obs := by
  unfold d22
  repeat' (first | exact trivial | apply lok22_2 | apply And.intro)
theorem k22 : FRight TA 22 s22 := fright (D := fun xs H => d22 (nth xs 0).slNil (nth xs 0).slRows) (sh := fun xs H => sh22 (nth xs 0).slNil (nth xs 0).slRows) cr22 (fun xs H Q => e22 (nth xs 0).slNil (nth xs 0).slRows Q) (fun xs H => o22 (nth xs 0).slNil (nth xs 0).slRows) (by intro xs H x r h; exact (Option.some.inj h).symm)
/-! vedette/vedetteref3.On -/
noncomputable def un124 : Nat → Bool := fun _ => false
noncomputable def cs124 : List (Nat × FS) := []
theorem cr124 : CRight TA (cT cs124) := cT_right cT_nil
noncomputable def lt124 : LT := fun rid st => .fail
abbrev X124 : Type := Bool
noncomputable def d124 (x0_0 : Int) (x0_1 : Int) : Dt X124 :=
  .br (decide (0 ≤ x0_0))
  (.br (decide (x0_0 < 64))
    (.br (decide (0 ≤ x0_1))
      (.ret (decide (x0_1 < 64)))
      (.ret false))
    (.ret false))
  (.ret false)
noncomputable def v124 (x0_0 : Int) (x0_1 : Int) : Option X124 := (d124 x0_0 x0_1).val
noncomputable def sh124 (x0_0 : Int) (x0_1 : Int) (x : X124) : AV × List GB := ((.bool x), [])
noncomputable def sd124 (x0_0 : Int) (x0_1 : Int) (x : X124) : Dt (AV × List GB) := .ret ((.bool x), [])
noncomputable def s124 : FS := guardS [.agg [.i .i64, .i .i64]] [] fun xs H => Dt.opt (v124 (nth (nth xs 0).cells 0).intOf (nth (nth xs 0).cells 1).intOf) (sd124 (nth (nth xs 0).cells 0).intOf (nth (nth xs 0).cells 1).intOf)
theorem e124 (x0_0 : Int) (x0_1 : Int) (Q : AV × List GB → Prop) : wpN TA (cT cs124) lt124 un124 80 (evFunc TA 124 [(.agg [(.int .i64 x0_0), (.int .i64 x0_1)])] []) Q = (d124 x0_0 x0_1).wp (fun x => Q (sh124 x0_0 x0_1 x)) := by kernel_rfl
theorem o124 (x0_0 : Int) (x0_1 : Int) : (d124 x0_0 x0_1).obs := by
  unfold d124
  repeat' (first | exact trivial | apply And.intro)
theorem k124 : FRight TA 124 s124 := fright (D := fun xs H => d124 (nth (nth xs 0).cells 0).intOf (nth (nth xs 0).cells 1).intOf) (sh := fun xs H => sh124 (nth (nth xs 0).cells 0).intOf (nth (nth xs 0).cells 1).intOf) cr124 (fun xs H Q => e124 (nth (nth xs 0).cells 0).intOf (nth (nth xs 0).cells 1).intOf Q) (fun xs H => o124 (nth (nth xs 0).cells 0).intOf (nth (nth xs 0).cells 1).intOf) (by intro xs H x r h; exact (Option.some.inj h).symm)
/-! vedette/vedetteref6.IsField -/
noncomputable def un125 : Nat → Bool := fun _ => false
noncomputable def cs125 : List (Nat × FS) := []
theorem cr125 : CRight TA (cT cs125) := cT_right cT_nil
noncomputable def lt125 : LT := fun rid st => .fail
abbrev X125 : Type := Bool
noncomputable def d125 (x0_0 : Int) (s0_1 : List UInt8) : Dt X125 :=
  .br (x0_0 == 0)
  (.ret (decide ((s0_1.length : Int) ≤ 12)))
  (.br (s0_1 == [])
    (.ret (decide ((s0_1.length : Int) ≤ 12)))
    (.ret false))
noncomputable def v125 (x0_0 : Int) (s0_1 : List UInt8) : Option X125 := (d125 x0_0 s0_1).val
noncomputable def sh125 (x0_0 : Int) (s0_1 : List UInt8) (x : X125) : AV × List GB := ((.bool x), [])
noncomputable def sd125 (x0_0 : Int) (s0_1 : List UInt8) (x : X125) : Dt (AV × List GB) := .ret ((.bool x), [])
noncomputable def s125 : FS := guardS [.agg [.i .i64, .s]] [] fun xs H => Dt.opt (v125 (nth (nth xs 0).cells 0).intOf (nth (nth xs 0).cells 1).strOf) (sd125 (nth (nth xs 0).cells 0).intOf (nth (nth xs 0).cells 1).strOf)
theorem e125 (x0_0 : Int) (s0_1 : List UInt8) (Q : AV × List GB → Prop) : wpN TA (cT cs125) lt125 un125 80 (evFunc TA 125 [(.agg [(.int .i64 x0_0), (.str s0_1)])] []) Q = (d125 x0_0 s0_1).wp (fun x => Q (sh125 x0_0 s0_1 x)) := by kernel_rfl
theorem o125 (x0_0 : Int) (s0_1 : List UInt8) : (d125 x0_0 s0_1).obs := by
  unfold d125
  repeat' (first | exact trivial | apply And.intro)
theorem k125 : FRight TA 125 s125 := fright (D := fun xs H => d125 (nth (nth xs 0).cells 0).intOf (nth (nth xs 0).cells 1).strOf) (sh := fun xs H => sh125 (nth (nth xs 0).cells 0).intOf (nth (nth xs 0).cells 1).strOf) cr125 (fun xs H Q => e125 (nth (nth xs 0).cells 0).intOf (nth (nth xs 0).cells 1).strOf Q) (fun xs H => o125 (nth (nth xs 0).cells 0).intOf (nth (nth xs 0).cells 1).strOf) (by intro xs H x r h; exact (Option.some.inj h).symm)
/-! vedette/vedetteref6.Is -/
noncomputable def un74 : Nat → Bool := fun r => Nat.beq r 3
noncomputable def cs74 : List (Nat × FS) := [(124, s124), (125, s125)]
theorem cr74 : CRight TA (cT cs74) := cT_right (cT_cons k124 (cT_cons k125 cT_nil))
noncomputable def lt74 : LT := fun rid st => .fail
abbrev X74 : Type := Bool
noncomputable def d74 (x0_0 : Int) (x0_1 : Int) (x0_2 : Int) (x0_3 : Int) (s0_4 : List UInt8) (x0_5 : Int) (s0_6 : List UInt8) (x0_7 : Int) (s0_8 : List UInt8) (x0_9 : Int) (s0_10 : List UInt8) : Dt X74 :=
  .br (decide (0 ≤ x0_0))
  (.br (decide (x0_0 ≤ 1000000))
    (Dt.opt (v124 x0_1 x0_2) fun y1 =>
      .br y1
      (Dt.opt (v125 x0_3 s0_4) fun y2 =>
        .br y2
        (Dt.opt (v125 x0_5 s0_6) fun y3 =>
          .br y3
          (Dt.opt (v125 x0_7 s0_8) fun y4 =>
            .br y4
            (Dt.opt (v125 x0_9 s0_10) fun y5 =>
              .ret y5)
            (.ret false))
          (.ret false))
        (.ret false))
      (.ret false))
    (.ret false))
  (.ret false)
noncomputable def v74 (x0_0 : Int) (x0_1 : Int) (x0_2 : Int) (x0_3 : Int) (s0_4 : List UInt8) (x0_5 : Int) (s0_6 : List UInt8) (x0_7 : Int) (s0_8 : List UInt8) (x0_9 : Int) (s0_10 : List UInt8) : Option X74 := (d74 x0_0 x0_1 x0_2 x0_3 s0_4 x0_5 s0_6 x0_7 s0_8 x0_9 s0_10).val
noncomputable def sh74 (x0_0 : Int) (x0_1 : Int) (x0_2 : Int) (x0_3 : Int) (s0_4 : List UInt8) (x0_5 : Int) (s0_6 : List UInt8) (x0_7 : Int) (s0_8 : List UInt8) (x0_9 : Int) (s0_10 : List UInt8) (x : X74) : AV × List GB := ((.bool x), [])
noncomputable def sd74 (x0_0 : Int) (x0_1 : Int) (x0_2 : Int) (x0_3 : Int) (s0_4 : List UInt8) (x0_5 : Int) (s0_6 : List UInt8) (x0_7 : Int) (s0_8 : List UInt8) (x0_9 : Int) (s0_10 : List UInt8) (x : X74) : Dt (AV × List GB) := .ret ((.bool x), [])
noncomputable def s74 : FS := guardS [.agg [.i .i64, .i .i64, .i .i64, .i .i64, .s, .i .i64, .s, .i .i64, .s, .i .i64, .s]] [] fun xs H => Dt.opt (v74 (nth (nth xs 0).cells 0).intOf (nth (nth xs 0).cells 1).intOf (nth (nth xs 0).cells 2).intOf (nth (nth xs 0).cells 3).intOf (nth (nth xs 0).cells 4).strOf (nth (nth xs 0).cells 5).intOf (nth (nth xs 0).cells 6).strOf (nth (nth xs 0).cells 7).intOf (nth (nth xs 0).cells 8).strOf (nth (nth xs 0).cells 9).intOf (nth (nth xs 0).cells 10).strOf) (sd74 (nth (nth xs 0).cells 0).intOf (nth (nth xs 0).cells 1).intOf (nth (nth xs 0).cells 2).intOf (nth (nth xs 0).cells 3).intOf (nth (nth xs 0).cells 4).strOf (nth (nth xs 0).cells 5).intOf (nth (nth xs 0).cells 6).strOf (nth (nth xs 0).cells 7).intOf (nth (nth xs 0).cells 8).strOf (nth (nth xs 0).cells 9).intOf (nth (nth xs 0).cells 10).strOf)
theorem e74 (x0_0 : Int) (x0_1 : Int) (x0_2 : Int) (x0_3 : Int) (s0_4 : List UInt8) (x0_5 : Int) (s0_6 : List UInt8) (x0_7 : Int) (s0_8 : List UInt8) (x0_9 : Int) (s0_10 : List UInt8) (Q : AV × List GB → Prop) : wpN TA (cT cs74) lt74 un74 80 (evFunc TA 74 [(.agg [(.int .i64 x0_0), (.int .i64 x0_1), (.int .i64 x0_2), (.int .i64 x0_3), (.str s0_4), (.int .i64 x0_5), (.str s0_6), (.int .i64 x0_7), (.str s0_8), (.int .i64 x0_9), (.str s0_10)])] []) Q = (d74 x0_0 x0_1 x0_2 x0_3 s0_4 x0_5 s0_6 x0_7 s0_8 x0_9 s0_10).wp (fun x => Q (sh74 x0_0 x0_1 x0_2 x0_3 s0_4 x0_5 s0_6 x0_7 s0_8 x0_9 s0_10 x)) := by kernel_rfl
theorem o74 (x0_0 : Int) (x0_1 : Int) (x0_2 : Int) (x0_3 : Int) (s0_4 : List UInt8) (x0_5 : Int) (s0_6 : List UInt8) (x0_7 : Int) (s0_8 : List UInt8) (x0_9 : Int) (s0_10 : List UInt8) : (d74 x0_0 x0_1 x0_2 x0_3 s0_4 x0_5 s0_6 x0_7 s0_8 x0_9 s0_10).obs := by
  unfold d74
  repeat' (first | exact trivial | apply And.intro)
theorem k74 : FRight TA 74 s74 := fright (D := fun xs H => d74 (nth (nth xs 0).cells 0).intOf (nth (nth xs 0).cells 1).intOf (nth (nth xs 0).cells 2).intOf (nth (nth xs 0).cells 3).intOf (nth (nth xs 0).cells 4).strOf (nth (nth xs 0).cells 5).intOf (nth (nth xs 0).cells 6).strOf (nth (nth xs 0).cells 7).intOf (nth (nth xs 0).cells 8).strOf (nth (nth xs 0).cells 9).intOf (nth (nth xs 0).cells 10).strOf) (sh := fun xs H => sh74 (nth (nth xs 0).cells 0).intOf (nth (nth xs 0).cells 1).intOf (nth (nth xs 0).cells 2).intOf (nth (nth xs 0).cells 3).intOf (nth (nth xs 0).cells 4).strOf (nth (nth xs 0).cells 5).intOf (nth (nth xs 0).cells 6).strOf (nth (nth xs 0).cells 7).intOf (nth (nth xs 0).cells 8).strOf (nth (nth xs 0).cells 9).intOf (nth (nth xs 0).cells 10).strOf) cr74 (fun xs H Q => e74 (nth (nth xs 0).cells 0).intOf (nth (nth xs 0).cells 1).intOf (nth (nth xs 0).cells 2).intOf (nth (nth xs 0).cells 3).intOf (nth (nth xs 0).cells 4).strOf (nth (nth xs 0).cells 5).intOf (nth (nth xs 0).cells 6).strOf (nth (nth xs 0).cells 7).intOf (nth (nth xs 0).cells 8).strOf (nth (nth xs 0).cells 9).intOf (nth (nth xs 0).cells 10).strOf Q) (fun xs H => o74 (nth (nth xs 0).cells 0).intOf (nth (nth xs 0).cells 1).intOf (nth (nth xs 0).cells 2).intOf (nth (nth xs 0).cells 3).intOf (nth (nth xs 0).cells 4).strOf (nth (nth xs 0).cells 5).intOf (nth (nth xs 0).cells 6).strOf (nth (nth xs 0).cells 7).intOf (nth (nth xs 0).cells 8).strOf (nth (nth xs 0).cells 9).intOf (nth (nth xs 0).cells 10).strOf) (by intro xs H x r h; exact (Option.some.inj h).symm)
/-! vedette/vedettelaw16.rising -/
noncomputable def un23 : Nat → Bool := fun _ => false
noncomputable def cs23 : List (Nat × FS) := [(74, s74)]
theorem cr23 : CRight TA (cT cs23) := cT_right (cT_cons k74 cT_nil)
noncomputable def c23_2 : Code := cB (cB (cR (cL (cR (bodyOf Try.f23)))))
abbrev P23_2 : Type := Int
abbrev Y23_2 : Type := Nat
noncomputable def d23_2 (n0 : Bool) (r0 : List (List AV)) (x3 : Int) : Dt (P23_2 ⊕ Y23_2) :=
  .br (decide (x3 < (r0.length : Int)))
  (.br (((decide (0 ≤ x3)) && (decide (x3 < (r0.length : Int)))) && true)
    (.br (epOk [(.i .i64), (.i .i64), (.i .i64), (.i .i64), .s, (.i .i64), .s, (.i .i64), .s, (.i .i64), .s] (r0.getD x3.toNat []) 0)
      (Dt.opt (v74 ((nth (r0.getD x3.toNat []) 0).intOf) ((nth (r0.getD x3.toNat []) 1).intOf) ((nth (r0.getD x3.toNat []) 2).intOf) ((nth (r0.getD x3.toNat []) 3).intOf) ((nth (r0.getD x3.toNat []) 4).strOf) ((nth (r0.getD x3.toNat []) 5).intOf) ((nth (r0.getD x3.toNat []) 6).strOf) ((nth (r0.getD x3.toNat []) 7).intOf) ((nth (r0.getD x3.toNat []) 8).strOf) ((nth (r0.getD x3.toNat []) 9).intOf) ((nth (r0.getD x3.toNat []) 10).strOf)) fun y1 =>
        .br (!y1)
        (.ret (.inr 0))
        (.br (decide (0 < x3))
          (.br (((decide (0 ≤ x3)) && (decide (x3 < (r0.length : Int)))) && true)
            (.br (epOk [(.i .i64)] (r0.getD x3.toNat []) 0)
              (.br (((decide (0 ≤ (wrapF .i64 (x3 - 1)))) && (decide ((wrapF .i64 (x3 - 1)) < (r0.length : Int)))) && true)
                (.br (epOk [(.i .i64)] (r0.getD (wrapF .i64 (x3 - 1)).toNat []) 0)
                  (.br (decide ((nth (r0.getD x3.toNat []) 0).intOf ≤ (nth (r0.getD (wrapF .i64 (x3 - 1)).toNat []) 0).intOf))
                    (.ret (.inr 0))
                    (.ret (.inl (wrapF .i64 (x3 + 1))))) (.fail)) (.fail)) (.fail)) (.fail))
          (.ret (.inl (wrapF .i64 (x3 + 1)))))) (.fail)) (.fail))
  (.ret (.inr 1))
noncomputable def w23_2 (n0 : Bool) (r0 : List (List AV)) (x3 : Int) : Option Y23_2 := loopV (fun p : P23_2 => d23_2 n0 r0 p) x3
noncomputable def hd23_2 (n0 : Bool) (r0 : List (List AV)) (x3 : Int) : St := (stAt 34 false [(0, (.sl 11 n0 r0 .no)), (3, (.int .i64 x3))] [] [])
noncomputable def ex23_2 (n0 : Bool) (r0 : List (List AV)) (x : Y23_2) : Ex × St := bif Nat.beq x 0 then (.ret, (stAt 34 false [(2, (.bool false))] [] [])) else ((.exit 0), (stAt 34 false [] [] []))
noncomputable def xd23_2 (n0 : Bool) (r0 : List (List AV)) (x : Y23_2) : Dt (Ex × St) := .br (Nat.beq x 0) (.ret (.ret, (stAt 34 false [(2, (.bool false))] [] []))) (.ret ((.exit 0), (stAt 34 false [] [] [])))
noncomputable def lt23 : LT := fun rid st => bif Nat.beq rid 2 then Dt.opt (w23_2 (nth st.tm 0).slNil (nth st.tm 0).slRows (nth st.tm 3).intOf) (xd23_2 (nth st.tm 0).slNil (nth st.tm 0).slRows) else .fail
theorem r23_2 (n0 : Bool) (r0 : List (List AV)) (p : P23_2) (Q : Ex × St → Prop) : wpN TA (cT cs23) lt23 un23 80 (roundR TA 23 2 c23_2 (hd23_2 n0 r0 p)) Q = (d23_2 n0 r0 p).wp (fun o => Sum.rec (fun p => Q (.normal, hd23_2 n0 r0 p)) (fun x => Q (ex23_2 n0 r0 x)) o) := by kernel_rfl
theorem ob23_2 (n0 : Bool) (r0 : List (List AV)) (p : P23_2) : (d23_2 n0 r0 p).obs := by
  unfold d23_2
  repeat' (first | exact trivial | apply And.intro)
theorem lok23_2 (n0 : Bool) (r0 : List (List AV)) (x3 : Int) : LoopOk TA 23 2 c23_2 (hd23_2 n0 r0 x3) (Dt.opt (w23_2 n0 r0 x3) (xd23_2 n0 r0)) :=
  loop_okD cr23 (fun p Q => r23_2 n0 r0 p Q) (fun p => ob23_2 n0 r0 p) (fun x => by
    unfold ex23_2
    repeat' (first | (intro h; cases h; done) | (generalize Nat.beq _ _ = b; cases b))) (fun x r h => by
    simp only [xd23_2, Dt.val_br, Dt.val_ret, ex23_2] at h ⊢
    revert h
    repeat' (first | (intro h; exact (Option.some.inj h).symm) | (generalize Nat.beq _ _ = b; cases b))) x3
abbrev X23 : Type := Bool
noncomputable def d23 (n0 : Bool) (r0 : List (List AV)) : Dt X23 :=
  .ob (LoopOk TA 23 2 c23_2 (hd23_2 n0 r0 0) (Dt.opt (w23_2 n0 r0 0) (xd23_2 n0 r0)))
  (Dt.opt (w23_2 n0 r0 0) fun y2 =>
    .br (Nat.beq y2 0)
    (.ret false)
    (.ret true))
noncomputable def v23 (n0 : Bool) (r0 : List (List AV)) : Option X23 := (d23 n0 r0).val
noncomputable def sh23 (n0 : Bool) (r0 : List (List AV)) (x : X23) : AV × List GB := ((.bool x), [])
noncomputable def sd23 (n0 : Bool) (r0 : List (List AV)) (x : X23) : Dt (AV × List GB) := .ret ((.bool x), [])
noncomputable def s23 : FS := guardS [.c (.sl 11 .no)] [] fun xs H => Dt.opt (v23 (nth xs 0).slNil (nth xs 0).slRows) (sd23 (nth xs 0).slNil (nth xs 0).slRows)
theorem e23 (n0 : Bool) (r0 : List (List AV)) (Q : AV × List GB → Prop) : wpN TA (cT cs23) lt23 un23 80 (evFunc TA 23 [(.sl 11 n0 r0 .no)] []) Q = (d23 n0 r0).wp (fun x => Q (sh23 n0 r0 x)) := by kernel_rfl
theorem o23 (n0 : Bool) (r0 : List (List AV)) : (d23 n0 r0).obs := by
  unfold d23
  repeat' (first | exact trivial | apply lok23_2 | apply And.intro)
theorem k23 : FRight TA 23 s23 := fright (D := fun xs H => d23 (nth xs 0).slNil (nth xs 0).slRows) (sh := fun xs H => sh23 (nth xs 0).slNil (nth xs 0).slRows) cr23 (fun xs H Q => e23 (nth xs 0).slNil (nth xs 0).slRows Q) (fun xs H => o23 (nth xs 0).slNil (nth xs 0).slRows) (by intro xs H x r h; exact (Option.some.inj h).symm)
/-! vedette/geom.In -/
noncomputable def un89 : Nat → Bool := fun _ => false
noncomputable def cs89 : List (Nat × FS) := []
theorem cr89 : CRight TA (cT cs89) := cT_right cT_nil
noncomputable def lt89 : LT := fun rid st => .fail
abbrev X89 : Type := Bool
noncomputable def d89 (x0_0 : Int) (x0_1 : Int) (x0_2 : Int) (x0_3 : Int) (x1_0 : Int) (x1_1 : Int) : Dt X89 :=
  .br (decide (x0_0 ≤ x1_0))
  (.br (decide (x1_0 < x0_2))
    (.br (decide (x0_1 ≤ x1_1))
      (.ret (decide (x1_1 < x0_3)))
      (.ret false))
    (.ret false))
  (.ret false)
noncomputable def v89 (x0_0 : Int) (x0_1 : Int) (x0_2 : Int) (x0_3 : Int) (x1_0 : Int) (x1_1 : Int) : Option X89 := (d89 x0_0 x0_1 x0_2 x0_3 x1_0 x1_1).val
noncomputable def sh89 (x0_0 : Int) (x0_1 : Int) (x0_2 : Int) (x0_3 : Int) (x1_0 : Int) (x1_1 : Int) (x : X89) : AV × List GB := ((.bool x), [])
noncomputable def sd89 (x0_0 : Int) (x0_1 : Int) (x0_2 : Int) (x0_3 : Int) (x1_0 : Int) (x1_1 : Int) (x : X89) : Dt (AV × List GB) := .ret ((.bool x), [])
noncomputable def s89 : FS := guardS [.agg [.i .i64, .i .i64, .i .i64, .i .i64], .agg [.i .i64, .i .i64]] [] fun xs H => Dt.opt (v89 (nth (nth xs 0).cells 0).intOf (nth (nth xs 0).cells 1).intOf (nth (nth xs 0).cells 2).intOf (nth (nth xs 0).cells 3).intOf (nth (nth xs 1).cells 0).intOf (nth (nth xs 1).cells 1).intOf) (sd89 (nth (nth xs 0).cells 0).intOf (nth (nth xs 0).cells 1).intOf (nth (nth xs 0).cells 2).intOf (nth (nth xs 0).cells 3).intOf (nth (nth xs 1).cells 0).intOf (nth (nth xs 1).cells 1).intOf)
theorem e89 (x0_0 : Int) (x0_1 : Int) (x0_2 : Int) (x0_3 : Int) (x1_0 : Int) (x1_1 : Int) (Q : AV × List GB → Prop) : wpN TA (cT cs89) lt89 un89 80 (evFunc TA 89 [(.agg [(.int .i64 x0_0), (.int .i64 x0_1), (.int .i64 x0_2), (.int .i64 x0_3)]), (.agg [(.int .i64 x1_0), (.int .i64 x1_1)])] []) Q = (d89 x0_0 x0_1 x0_2 x0_3 x1_0 x1_1).wp (fun x => Q (sh89 x0_0 x0_1 x0_2 x0_3 x1_0 x1_1 x)) := by kernel_rfl
theorem o89 (x0_0 : Int) (x0_1 : Int) (x0_2 : Int) (x0_3 : Int) (x1_0 : Int) (x1_1 : Int) : (d89 x0_0 x0_1 x0_2 x0_3 x1_0 x1_1).obs := by
  unfold d89
  repeat' (first | exact trivial | apply And.intro)
theorem k89 : FRight TA 89 s89 := fright (D := fun xs H => d89 (nth (nth xs 0).cells 0).intOf (nth (nth xs 0).cells 1).intOf (nth (nth xs 0).cells 2).intOf (nth (nth xs 0).cells 3).intOf (nth (nth xs 1).cells 0).intOf (nth (nth xs 1).cells 1).intOf) (sh := fun xs H => sh89 (nth (nth xs 0).cells 0).intOf (nth (nth xs 0).cells 1).intOf (nth (nth xs 0).cells 2).intOf (nth (nth xs 0).cells 3).intOf (nth (nth xs 1).cells 0).intOf (nth (nth xs 1).cells 1).intOf) cr89 (fun xs H Q => e89 (nth (nth xs 0).cells 0).intOf (nth (nth xs 0).cells 1).intOf (nth (nth xs 0).cells 2).intOf (nth (nth xs 0).cells 3).intOf (nth (nth xs 1).cells 0).intOf (nth (nth xs 1).cells 1).intOf Q) (fun xs H => o89 (nth (nth xs 0).cells 0).intOf (nth (nth xs 0).cells 1).intOf (nth (nth xs 0).cells 2).intOf (nth (nth xs 0).cells 3).intOf (nth (nth xs 1).cells 0).intOf (nth (nth xs 1).cells 1).intOf) (by intro xs H x r h; exact (Option.some.inj h).symm)
/-! vedette/diff.Seen -/
noncomputable def un27 : Nat → Bool := fun _ => false
noncomputable def cs27 : List (Nat × FS) := [(89, s89)]
theorem cr27 : CRight TA (cT cs27) := cT_right (cT_cons k89 cT_nil)
noncomputable def c27_3 : Code := cB (cB (cR (cL (cR (cR (bodyOf Try.f27))))))
abbrev P27_3 : Type := Bool × (List (List AV)) × Int
abbrev Y27_3 : Type := Bool × (List (List AV))
noncomputable def d27_3 (n8 : Bool) (r8 : List (List AV)) (x9 : Int) (xl3_0 : Int) (xl3_1 : Int) (xl3_2 : Int) (xl3_3 : Int) (n5 : Bool) (r5 : List (List AV)) (x10 : Int) : Dt (P27_3 ⊕ Y27_3) :=
  .br (decide (x10 < x9))
  (.br (((decide (0 ≤ x10)) && (decide (x10 < (r8.length : Int)))) && true)
    (.br (epOk [(.i .i64), (.i .i64), (.i .i64), (.i .i64), .s, (.i .i64), .s, (.i .i64), .s, (.i .i64), .s] (r8.getD x10.toNat []) 0)
      (Dt.opt (v89 xl3_0 xl3_1 xl3_2 xl3_3 ((nth (r8.getD x10.toNat []) 1).intOf) ((nth (r8.getD x10.toNat []) 2).intOf)) fun y1 =>
        .br y1
        (.br (decide ((r5.length + 1) ≤ 268435456))
          (.br n5
            (.ret (.inl (false, [[(.int .i64 ((nth (r8.getD x10.toNat []) 0).intOf)), (.int .i64 ((nth (r8.getD x10.toNat []) 1).intOf)), (.int .i64 ((nth (r8.getD x10.toNat []) 2).intOf)), (.int .i64 ((nth (r8.getD x10.toNat []) 3).intOf)), (.str ((nth (r8.getD x10.toNat []) 4).strOf)), (.int .i64 ((nth (r8.getD x10.toNat []) 5).intOf)), (.str ((nth (r8.getD x10.toNat []) 6).strOf)), (.int .i64 ((nth (r8.getD x10.toNat []) 7).intOf)), (.str ((nth (r8.getD x10.toNat []) 8).strOf)), (.int .i64 ((nth (r8.getD x10.toNat []) 9).intOf)), (.str ((nth (r8.getD x10.toNat []) 10).strOf))]], (wrapF .i64 (x10 + 1)))))
            (.ret (.inl (false, (r5 ++ ([[(.int .i64 ((nth (r8.getD x10.toNat []) 0).intOf)), (.int .i64 ((nth (r8.getD x10.toNat []) 1).intOf)), (.int .i64 ((nth (r8.getD x10.toNat []) 2).intOf)), (.int .i64 ((nth (r8.getD x10.toNat []) 3).intOf)), (.str ((nth (r8.getD x10.toNat []) 4).strOf)), (.int .i64 ((nth (r8.getD x10.toNat []) 5).intOf)), (.str ((nth (r8.getD x10.toNat []) 6).strOf)), (.int .i64 ((nth (r8.getD x10.toNat []) 7).intOf)), (.str ((nth (r8.getD x10.toNat []) 8).strOf)), (.int .i64 ((nth (r8.getD x10.toNat []) 9).intOf)), (.str ((nth (r8.getD x10.toNat []) 10).strOf))]] : List (List AV))), (wrapF .i64 (x10 + 1)))))) (.fail))
        (.ret (.inl (n5, r5, (wrapF .i64 (x10 + 1)))))) (.fail)) (.fail))
  (.ret (.inr (n5, r5)))
noncomputable def w27_3 (n5 : Bool) (r5 : List (List AV)) (n8 : Bool) (r8 : List (List AV)) (x9 : Int) (x10 : Int) (xl3_0 : Int) (xl3_1 : Int) (xl3_2 : Int) (xl3_3 : Int) : Option Y27_3 := loopV (fun p : P27_3 => d27_3 n8 r8 x9 xl3_0 xl3_1 xl3_2 xl3_3 p.1 p.2.1 p.2.2) (n5, r5, x10)
noncomputable def hd27_3 (n5 : Bool) (r5 : List (List AV)) (n8 : Bool) (r8 : List (List AV)) (x9 : Int) (x10 : Int) (xl3_0 : Int) (xl3_1 : Int) (xl3_2 : Int) (xl3_3 : Int) : St := (stAt 24 false [(3, (.lp 3 0)), (5, (.sl 11 n5 r5 (.tc 5))), (8, (.sl 11 n8 r8 .no)), (9, (.int .i64 x9)), (10, (.int .i64 x10))] [(3, ([(.int .i64 xl3_0), (.int .i64 xl3_1), (.int .i64 xl3_2), (.int .i64 xl3_3)] : List AV))] [])
noncomputable def ex27_3 (n8 : Bool) (r8 : List (List AV)) (x9 : Int) (xl3_0 : Int) (xl3_1 : Int) (xl3_2 : Int) (xl3_3 : Int) (x : Y27_3) : Ex × St := ((.exit 0), (stAt 24 false [(5, (.sl 11 x.1 x.2 (.tc 5)))] [] []))
noncomputable def xd27_3 (n8 : Bool) (r8 : List (List AV)) (x9 : Int) (xl3_0 : Int) (xl3_1 : Int) (xl3_2 : Int) (xl3_3 : Int) (x : Y27_3) : Dt (Ex × St) := .ret ((.exit 0), (stAt 24 false [(5, (.sl 11 x.1 x.2 (.tc 5)))] [] []))
noncomputable def lt27 : LT := fun rid st => bif Nat.beq rid 3 then Dt.opt (w27_3 (nth st.tm 5).slNil (nth st.tm 5).slRows (nth st.tm 8).slNil (nth st.tm 8).slRows (nth st.tm 9).intOf (nth st.tm 10).intOf (nth (nthL st.L 3) 0).intOf (nth (nthL st.L 3) 1).intOf (nth (nthL st.L 3) 2).intOf (nth (nthL st.L 3) 3).intOf) (xd27_3 (nth st.tm 8).slNil (nth st.tm 8).slRows (nth st.tm 9).intOf (nth (nthL st.L 3) 0).intOf (nth (nthL st.L 3) 1).intOf (nth (nthL st.L 3) 2).intOf (nth (nthL st.L 3) 3).intOf) else .fail
theorem r27_3 (n8 : Bool) (r8 : List (List AV)) (x9 : Int) (xl3_0 : Int) (xl3_1 : Int) (xl3_2 : Int) (xl3_3 : Int) (p : P27_3) (Q : Ex × St → Prop) : wpN TA (cT cs27) lt27 un27 80 (roundR TA 27 3 c27_3 (hd27_3 p.1 p.2.1 n8 r8 x9 p.2.2 xl3_0 xl3_1 xl3_2 xl3_3)) Q = (d27_3 n8 r8 x9 xl3_0 xl3_1 xl3_2 xl3_3 p.1 p.2.1 p.2.2).wp (fun o => Sum.rec (fun p => Q (.normal, hd27_3 p.1 p.2.1 n8 r8 x9 p.2.2 xl3_0 xl3_1 xl3_2 xl3_3)) (fun x => Q (ex27_3 n8 r8 x9 xl3_0 xl3_1 xl3_2 xl3_3 x)) o) := by kernel_rfl
theorem ob27_3 (n8 : Bool) (r8 : List (List AV)) (x9 : Int) (xl3_0 : Int) (xl3_1 : Int) (xl3_2 : Int) (xl3_3 : Int) (p : P27_3) : (d27_3 n8 r8 x9 xl3_0 xl3_1 xl3_2 xl3_3 p.1 p.2.1 p.2.2).obs := by
  unfold d27_3
  repeat' (first | exact trivial | apply And.intro)
theorem lok27_3 (n5 : Bool) (r5 : List (List AV)) (n8 : Bool) (r8 : List (List AV)) (x9 : Int) (x10 : Int) (xl3_0 : Int) (xl3_1 : Int) (xl3_2 : Int) (xl3_3 : Int) : LoopOk TA 27 3 c27_3 (hd27_3 n5 r5 n8 r8 x9 x10 xl3_0 xl3_1 xl3_2 xl3_3) (Dt.opt (w27_3 n5 r5 n8 r8 x9 x10 xl3_0 xl3_1 xl3_2 xl3_3) (xd27_3 n8 r8 x9 xl3_0 xl3_1 xl3_2 xl3_3)) :=
  loop_okD cr27 (fun p Q => r27_3 n8 r8 x9 xl3_0 xl3_1 xl3_2 xl3_3 p Q) (fun p => ob27_3 n8 r8 x9 xl3_0 xl3_1 xl3_2 xl3_3 p) (fun x h => by cases h) (by intro x r h; exact (Option.some.inj h).symm) (n5, r5, x10)
abbrev X27 : Type := Bool × (List (List AV))
noncomputable def d27 (n0 : Bool) (r0 : List (List AV)) (x1_0 : Int) (x1_1 : Int) (x1_2 : Int) (x1_3 : Int) : Dt X27 :=
  .ob (LoopOk TA 27 3 c27_3 (hd27_3 true [] n0 r0 (r0.length : Int) 0 x1_0 x1_1 x1_2 x1_3) (Dt.opt (w27_3 true [] n0 r0 (r0.length : Int) 0 x1_0 x1_1 x1_2 x1_3) (xd27_3 n0 r0 (r0.length : Int) x1_0 x1_1 x1_2 x1_3)))
  (Dt.opt (w27_3 true [] n0 r0 (r0.length : Int) 0 x1_0 x1_1 x1_2 x1_3) fun y2 =>
    .ret (y2.1, y2.2))
noncomputable def v27 (n0 : Bool) (r0 : List (List AV)) (x1_0 : Int) (x1_1 : Int) (x1_2 : Int) (x1_3 : Int) : Option X27 := (d27 n0 r0 x1_0 x1_1 x1_2 x1_3).val
noncomputable def sh27 (n0 : Bool) (r0 : List (List AV)) (x1_0 : Int) (x1_1 : Int) (x1_2 : Int) (x1_3 : Int) (x : X27) : AV × List GB := ((.sl 11 x.1 x.2 (.tc 0)), [])
noncomputable def sd27 (n0 : Bool) (r0 : List (List AV)) (x1_0 : Int) (x1_1 : Int) (x1_2 : Int) (x1_3 : Int) (x : X27) : Dt (AV × List GB) := .ret ((.sl 11 x.1 x.2 (.tc 0)), [])
noncomputable def s27 : FS := guardS [.c (.sl 11 .no), .agg [.i .i64, .i .i64, .i .i64, .i .i64]] [] fun xs H => Dt.opt (v27 (nth xs 0).slNil (nth xs 0).slRows (nth (nth xs 1).cells 0).intOf (nth (nth xs 1).cells 1).intOf (nth (nth xs 1).cells 2).intOf (nth (nth xs 1).cells 3).intOf) (sd27 (nth xs 0).slNil (nth xs 0).slRows (nth (nth xs 1).cells 0).intOf (nth (nth xs 1).cells 1).intOf (nth (nth xs 1).cells 2).intOf (nth (nth xs 1).cells 3).intOf)
theorem e27 (n0 : Bool) (r0 : List (List AV)) (x1_0 : Int) (x1_1 : Int) (x1_2 : Int) (x1_3 : Int) (Q : AV × List GB → Prop) : wpN TA (cT cs27) lt27 un27 80 (evFunc TA 27 [(.sl 11 n0 r0 .no), (.agg [(.int .i64 x1_0), (.int .i64 x1_1), (.int .i64 x1_2), (.int .i64 x1_3)])] []) Q = (d27 n0 r0 x1_0 x1_1 x1_2 x1_3).wp (fun x => Q (sh27 n0 r0 x1_0 x1_1 x1_2 x1_3 x)) := by kernel_rfl
theorem o27 (n0 : Bool) (r0 : List (List AV)) (x1_0 : Int) (x1_1 : Int) (x1_2 : Int) (x1_3 : Int) : (d27 n0 r0 x1_0 x1_1 x1_2 x1_3).obs := by
  unfold d27
  repeat' (first | exact trivial | apply lok27_3 | apply And.intro)
theorem k27 : FRight TA 27 s27 := fright (D := fun xs H => d27 (nth xs 0).slNil (nth xs 0).slRows (nth (nth xs 1).cells 0).intOf (nth (nth xs 1).cells 1).intOf (nth (nth xs 1).cells 2).intOf (nth (nth xs 1).cells 3).intOf) (sh := fun xs H => sh27 (nth xs 0).slNil (nth xs 0).slRows (nth (nth xs 1).cells 0).intOf (nth (nth xs 1).cells 1).intOf (nth (nth xs 1).cells 2).intOf (nth (nth xs 1).cells 3).intOf) cr27 (fun xs H Q => e27 (nth xs 0).slNil (nth xs 0).slRows (nth (nth xs 1).cells 0).intOf (nth (nth xs 1).cells 1).intOf (nth (nth xs 1).cells 2).intOf (nth (nth xs 1).cells 3).intOf Q) (fun xs H => o27 (nth xs 0).slNil (nth xs 0).slRows (nth (nth xs 1).cells 0).intOf (nth (nth xs 1).cells 1).intOf (nth (nth xs 1).cells 2).intOf (nth (nth xs 1).cells 3).intOf) (by intro xs H x r h; exact (Option.some.inj h).symm)
/-! vedette/fields.Diff -/
noncomputable def un85 : Nat → Bool := fun r => Nat.beq r 5
noncomputable def cs85 : List (Nat × FS) := []
theorem cr85 : CRight TA (cT cs85) := cT_right cT_nil
noncomputable def lt85 : LT := fun rid st => .fail
abbrev X85 : Type := Int × Int × Int × Int × (List UInt8) × Int × (List UInt8) × Int × (List UInt8) × Int × (List UInt8) × Bool
noncomputable def d85 (x0_0 : Int) (x0_1 : Int) (x0_2 : Int) (x0_3 : Int) (s0_4 : List UInt8) (x0_5 : Int) (s0_6 : List UInt8) (x0_7 : Int) (s0_8 : List UInt8) (x0_9 : Int) (s0_10 : List UInt8) (x1_0 : Int) (x1_1 : Int) (x1_2 : Int) (x1_3 : Int) (s1_4 : List UInt8) (x1_5 : Int) (s1_6 : List UInt8) (x1_7 : Int) (s1_8 : List UInt8) (x1_9 : Int) (s1_10 : List UInt8) : Dt X85 :=
  .br (!((x0_1 == x1_1) && ((x0_2 == x1_2) && true)))
  (.br (!((x0_3 == x1_3) && ((s0_4 == s1_4) && true)))
    (.br (!((x0_5 == x1_5) && ((s0_6 == s1_6) && true)))
      (.br (!((x0_7 == x1_7) && ((s0_8 == s1_8) && true)))
        (.br (!((x0_9 == x1_9) && ((s0_10 == s1_10) && true)))
          (.ret (31, x1_1, x1_2, x1_3, s1_4, x1_5, s1_6, x1_7, s1_8, x1_9, s1_10, true))
          (.ret (15, x1_1, x1_2, x1_3, s1_4, x1_5, s1_6, x1_7, s1_8, 0, [], true)))
        (.br (!((x0_9 == x1_9) && ((s0_10 == s1_10) && true)))
          (.ret (23, x1_1, x1_2, x1_3, s1_4, x1_5, s1_6, 0, [], x1_9, s1_10, true))
          (.ret (7, x1_1, x1_2, x1_3, s1_4, x1_5, s1_6, 0, [], 0, [], true))))
      (.br (!((x0_7 == x1_7) && ((s0_8 == s1_8) && true)))
        (.br (!((x0_9 == x1_9) && ((s0_10 == s1_10) && true)))
          (.ret (27, x1_1, x1_2, x1_3, s1_4, 0, [], x1_7, s1_8, x1_9, s1_10, true))
          (.ret (11, x1_1, x1_2, x1_3, s1_4, 0, [], x1_7, s1_8, 0, [], true)))
        (.br (!((x0_9 == x1_9) && ((s0_10 == s1_10) && true)))
          (.ret (19, x1_1, x1_2, x1_3, s1_4, 0, [], 0, [], x1_9, s1_10, true))
          (.ret (3, x1_1, x1_2, x1_3, s1_4, 0, [], 0, [], 0, [], true)))))
    (.br (!((x0_5 == x1_5) && ((s0_6 == s1_6) && true)))
      (.br (!((x0_7 == x1_7) && ((s0_8 == s1_8) && true)))
        (.br (!((x0_9 == x1_9) && ((s0_10 == s1_10) && true)))
          (.ret (29, x1_1, x1_2, 0, [], x1_5, s1_6, x1_7, s1_8, x1_9, s1_10, true))
          (.ret (13, x1_1, x1_2, 0, [], x1_5, s1_6, x1_7, s1_8, 0, [], true)))
        (.br (!((x0_9 == x1_9) && ((s0_10 == s1_10) && true)))
          (.ret (21, x1_1, x1_2, 0, [], x1_5, s1_6, 0, [], x1_9, s1_10, true))
          (.ret (5, x1_1, x1_2, 0, [], x1_5, s1_6, 0, [], 0, [], true))))
      (.br (!((x0_7 == x1_7) && ((s0_8 == s1_8) && true)))
        (.br (!((x0_9 == x1_9) && ((s0_10 == s1_10) && true)))
          (.ret (25, x1_1, x1_2, 0, [], 0, [], x1_7, s1_8, x1_9, s1_10, true))
          (.ret (9, x1_1, x1_2, 0, [], 0, [], x1_7, s1_8, 0, [], true)))
        (.br (!((x0_9 == x1_9) && ((s0_10 == s1_10) && true)))
          (.ret (17, x1_1, x1_2, 0, [], 0, [], 0, [], x1_9, s1_10, true))
          (.ret (1, x1_1, x1_2, 0, [], 0, [], 0, [], 0, [], true))))))
  (.br (!((x0_3 == x1_3) && ((s0_4 == s1_4) && true)))
    (.br (!((x0_5 == x1_5) && ((s0_6 == s1_6) && true)))
      (.br (!((x0_7 == x1_7) && ((s0_8 == s1_8) && true)))
        (.br (!((x0_9 == x1_9) && ((s0_10 == s1_10) && true)))
          (.ret (30, 0, 0, x1_3, s1_4, x1_5, s1_6, x1_7, s1_8, x1_9, s1_10, true))
          (.ret (14, 0, 0, x1_3, s1_4, x1_5, s1_6, x1_7, s1_8, 0, [], true)))
        (.br (!((x0_9 == x1_9) && ((s0_10 == s1_10) && true)))
          (.ret (22, 0, 0, x1_3, s1_4, x1_5, s1_6, 0, [], x1_9, s1_10, true))
          (.ret (6, 0, 0, x1_3, s1_4, x1_5, s1_6, 0, [], 0, [], true))))
      (.br (!((x0_7 == x1_7) && ((s0_8 == s1_8) && true)))
        (.br (!((x0_9 == x1_9) && ((s0_10 == s1_10) && true)))
          (.ret (26, 0, 0, x1_3, s1_4, 0, [], x1_7, s1_8, x1_9, s1_10, true))
          (.ret (10, 0, 0, x1_3, s1_4, 0, [], x1_7, s1_8, 0, [], true)))
        (.br (!((x0_9 == x1_9) && ((s0_10 == s1_10) && true)))
          (.ret (18, 0, 0, x1_3, s1_4, 0, [], 0, [], x1_9, s1_10, true))
          (.ret (2, 0, 0, x1_3, s1_4, 0, [], 0, [], 0, [], true)))))
    (.br (!((x0_5 == x1_5) && ((s0_6 == s1_6) && true)))
      (.br (!((x0_7 == x1_7) && ((s0_8 == s1_8) && true)))
        (.br (!((x0_9 == x1_9) && ((s0_10 == s1_10) && true)))
          (.ret (28, 0, 0, 0, [], x1_5, s1_6, x1_7, s1_8, x1_9, s1_10, true))
          (.ret (12, 0, 0, 0, [], x1_5, s1_6, x1_7, s1_8, 0, [], true)))
        (.br (!((x0_9 == x1_9) && ((s0_10 == s1_10) && true)))
          (.ret (20, 0, 0, 0, [], x1_5, s1_6, 0, [], x1_9, s1_10, true))
          (.ret (4, 0, 0, 0, [], x1_5, s1_6, 0, [], 0, [], true))))
      (.br (!((x0_7 == x1_7) && ((s0_8 == s1_8) && true)))
        (.br (!((x0_9 == x1_9) && ((s0_10 == s1_10) && true)))
          (.ret (24, 0, 0, 0, [], 0, [], x1_7, s1_8, x1_9, s1_10, true))
          (.ret (8, 0, 0, 0, [], 0, [], x1_7, s1_8, 0, [], true)))
        (.br (!((x0_9 == x1_9) && ((s0_10 == s1_10) && true)))
          (.ret (16, 0, 0, 0, [], 0, [], 0, [], x1_9, s1_10, true))
          (.ret (0, 0, 0, 0, [], 0, [], 0, [], 0, [], false))))))
noncomputable def v85 (x0_0 : Int) (x0_1 : Int) (x0_2 : Int) (x0_3 : Int) (s0_4 : List UInt8) (x0_5 : Int) (s0_6 : List UInt8) (x0_7 : Int) (s0_8 : List UInt8) (x0_9 : Int) (s0_10 : List UInt8) (x1_0 : Int) (x1_1 : Int) (x1_2 : Int) (x1_3 : Int) (s1_4 : List UInt8) (x1_5 : Int) (s1_6 : List UInt8) (x1_7 : Int) (s1_8 : List UInt8) (x1_9 : Int) (s1_10 : List UInt8) : Option X85 := (d85 x0_0 x0_1 x0_2 x0_3 s0_4 x0_5 s0_6 x0_7 s0_8 x0_9 s0_10 x1_0 x1_1 x1_2 x1_3 s1_4 x1_5 s1_6 x1_7 s1_8 x1_9 s1_10).val
noncomputable def sh85 (x0_0 : Int) (x0_1 : Int) (x0_2 : Int) (x0_3 : Int) (s0_4 : List UInt8) (x0_5 : Int) (s0_6 : List UInt8) (x0_7 : Int) (s0_8 : List UInt8) (x0_9 : Int) (s0_10 : List UInt8) (x1_0 : Int) (x1_1 : Int) (x1_2 : Int) (x1_3 : Int) (s1_4 : List UInt8) (x1_5 : Int) (s1_6 : List UInt8) (x1_7 : Int) (s1_8 : List UInt8) (x1_9 : Int) (s1_10 : List UInt8) (x : X85) : AV × List GB := ((.tup [(.agg [(.int .i64 x1_0), (.int .u8 x.1), (.int .i64 x.2.1), (.int .i64 x.2.2.1), (.int .i64 x.2.2.2.1), (.str x.2.2.2.2.1), (.int .i64 x.2.2.2.2.2.1), (.str x.2.2.2.2.2.2.1), (.int .i64 x.2.2.2.2.2.2.2.1), (.str x.2.2.2.2.2.2.2.2.1), (.int .i64 x.2.2.2.2.2.2.2.2.2.1), (.str x.2.2.2.2.2.2.2.2.2.2.1)]), (.bool x.2.2.2.2.2.2.2.2.2.2.2)]), [])
noncomputable def sd85 (x0_0 : Int) (x0_1 : Int) (x0_2 : Int) (x0_3 : Int) (s0_4 : List UInt8) (x0_5 : Int) (s0_6 : List UInt8) (x0_7 : Int) (s0_8 : List UInt8) (x0_9 : Int) (s0_10 : List UInt8) (x1_0 : Int) (x1_1 : Int) (x1_2 : Int) (x1_3 : Int) (s1_4 : List UInt8) (x1_5 : Int) (s1_6 : List UInt8) (x1_7 : Int) (s1_8 : List UInt8) (x1_9 : Int) (s1_10 : List UInt8) (x : X85) : Dt (AV × List GB) := .ret ((.tup [(.agg [(.int .i64 x1_0), (.int .u8 x.1), (.int .i64 x.2.1), (.int .i64 x.2.2.1), (.int .i64 x.2.2.2.1), (.str x.2.2.2.2.1), (.int .i64 x.2.2.2.2.2.1), (.str x.2.2.2.2.2.2.1), (.int .i64 x.2.2.2.2.2.2.2.1), (.str x.2.2.2.2.2.2.2.2.1), (.int .i64 x.2.2.2.2.2.2.2.2.2.1), (.str x.2.2.2.2.2.2.2.2.2.2.1)]), (.bool x.2.2.2.2.2.2.2.2.2.2.2)]), [])
noncomputable def s85 : FS := guardS [.agg [.i .i64, .i .i64, .i .i64, .i .i64, .s, .i .i64, .s, .i .i64, .s, .i .i64, .s], .agg [.i .i64, .i .i64, .i .i64, .i .i64, .s, .i .i64, .s, .i .i64, .s, .i .i64, .s]] [] fun xs H => Dt.opt (v85 (nth (nth xs 0).cells 0).intOf (nth (nth xs 0).cells 1).intOf (nth (nth xs 0).cells 2).intOf (nth (nth xs 0).cells 3).intOf (nth (nth xs 0).cells 4).strOf (nth (nth xs 0).cells 5).intOf (nth (nth xs 0).cells 6).strOf (nth (nth xs 0).cells 7).intOf (nth (nth xs 0).cells 8).strOf (nth (nth xs 0).cells 9).intOf (nth (nth xs 0).cells 10).strOf (nth (nth xs 1).cells 0).intOf (nth (nth xs 1).cells 1).intOf (nth (nth xs 1).cells 2).intOf (nth (nth xs 1).cells 3).intOf (nth (nth xs 1).cells 4).strOf (nth (nth xs 1).cells 5).intOf (nth (nth xs 1).cells 6).strOf (nth (nth xs 1).cells 7).intOf (nth (nth xs 1).cells 8).strOf (nth (nth xs 1).cells 9).intOf (nth (nth xs 1).cells 10).strOf) (sd85 (nth (nth xs 0).cells 0).intOf (nth (nth xs 0).cells 1).intOf (nth (nth xs 0).cells 2).intOf (nth (nth xs 0).cells 3).intOf (nth (nth xs 0).cells 4).strOf (nth (nth xs 0).cells 5).intOf (nth (nth xs 0).cells 6).strOf (nth (nth xs 0).cells 7).intOf (nth (nth xs 0).cells 8).strOf (nth (nth xs 0).cells 9).intOf (nth (nth xs 0).cells 10).strOf (nth (nth xs 1).cells 0).intOf (nth (nth xs 1).cells 1).intOf (nth (nth xs 1).cells 2).intOf (nth (nth xs 1).cells 3).intOf (nth (nth xs 1).cells 4).strOf (nth (nth xs 1).cells 5).intOf (nth (nth xs 1).cells 6).strOf (nth (nth xs 1).cells 7).intOf (nth (nth xs 1).cells 8).strOf (nth (nth xs 1).cells 9).intOf (nth (nth xs 1).cells 10).strOf)
theorem e85 (x0_0 : Int) (x0_1 : Int) (x0_2 : Int) (x0_3 : Int) (s0_4 : List UInt8) (x0_5 : Int) (s0_6 : List UInt8) (x0_7 : Int) (s0_8 : List UInt8) (x0_9 : Int) (s0_10 : List UInt8) (x1_0 : Int) (x1_1 : Int) (x1_2 : Int) (x1_3 : Int) (s1_4 : List UInt8) (x1_5 : Int) (s1_6 : List UInt8) (x1_7 : Int) (s1_8 : List UInt8) (x1_9 : Int) (s1_10 : List UInt8) (Q : AV × List GB → Prop) : wpN TA (cT cs85) lt85 un85 80 (evFunc TA 85 [(.agg [(.int .i64 x0_0), (.int .i64 x0_1), (.int .i64 x0_2), (.int .i64 x0_3), (.str s0_4), (.int .i64 x0_5), (.str s0_6), (.int .i64 x0_7), (.str s0_8), (.int .i64 x0_9), (.str s0_10)]), (.agg [(.int .i64 x1_0), (.int .i64 x1_1), (.int .i64 x1_2), (.int .i64 x1_3), (.str s1_4), (.int .i64 x1_5), (.str s1_6), (.int .i64 x1_7), (.str s1_8), (.int .i64 x1_9), (.str s1_10)])] []) Q = (d85 x0_0 x0_1 x0_2 x0_3 s0_4 x0_5 s0_6 x0_7 s0_8 x0_9 s0_10 x1_0 x1_1 x1_2 x1_3 s1_4 x1_5 s1_6 x1_7 s1_8 x1_9 s1_10).wp (fun x => Q (sh85 x0_0 x0_1 x0_2 x0_3 s0_4 x0_5 s0_6 x0_7 s0_8 x0_9 s0_10 x1_0 x1_1 x1_2 x1_3 s1_4 x1_5 s1_6 x1_7 s1_8 x1_9 s1_10 x)) := by kernel_rfl
theorem o85 (x0_0 : Int) (x0_1 : Int) (x0_2 : Int) (x0_3 : Int) (s0_4 : List UInt8) (x0_5 : Int) (s0_6 : List UInt8) (x0_7 : Int) (s0_8 : List UInt8) (x0_9 : Int) (s0_10 : List UInt8) (x1_0 : Int) (x1_1 : Int) (x1_2 : Int) (x1_3 : Int) (s1_4 : List UInt8) (x1_5 : Int) (s1_6 : List UInt8) (x1_7 : Int) (s1_8 : List UInt8) (x1_9 : Int) (s1_10 : List UInt8) : (d85 x0_0 x0_1 x0_2 x0_3 s0_4 x0_5 s0_6 x0_7 s0_8 x0_9 s0_10 x1_0 x1_1 x1_2 x1_3 s1_4 x1_5 s1_6 x1_7 s1_8 x1_9 s1_10).obs := by
  unfold d85
  repeat' (first | exact trivial | apply And.intro)
theorem k85 : FRight TA 85 s85 := fright (D := fun xs H => d85 (nth (nth xs 0).cells 0).intOf (nth (nth xs 0).cells 1).intOf (nth (nth xs 0).cells 2).intOf (nth (nth xs 0).cells 3).intOf (nth (nth xs 0).cells 4).strOf (nth (nth xs 0).cells 5).intOf (nth (nth xs 0).cells 6).strOf (nth (nth xs 0).cells 7).intOf (nth (nth xs 0).cells 8).strOf (nth (nth xs 0).cells 9).intOf (nth (nth xs 0).cells 10).strOf (nth (nth xs 1).cells 0).intOf (nth (nth xs 1).cells 1).intOf (nth (nth xs 1).cells 2).intOf (nth (nth xs 1).cells 3).intOf (nth (nth xs 1).cells 4).strOf (nth (nth xs 1).cells 5).intOf (nth (nth xs 1).cells 6).strOf (nth (nth xs 1).cells 7).intOf (nth (nth xs 1).cells 8).strOf (nth (nth xs 1).cells 9).intOf (nth (nth xs 1).cells 10).strOf) (sh := fun xs H => sh85 (nth (nth xs 0).cells 0).intOf (nth (nth xs 0).cells 1).intOf (nth (nth xs 0).cells 2).intOf (nth (nth xs 0).cells 3).intOf (nth (nth xs 0).cells 4).strOf (nth (nth xs 0).cells 5).intOf (nth (nth xs 0).cells 6).strOf (nth (nth xs 0).cells 7).intOf (nth (nth xs 0).cells 8).strOf (nth (nth xs 0).cells 9).intOf (nth (nth xs 0).cells 10).strOf (nth (nth xs 1).cells 0).intOf (nth (nth xs 1).cells 1).intOf (nth (nth xs 1).cells 2).intOf (nth (nth xs 1).cells 3).intOf (nth (nth xs 1).cells 4).strOf (nth (nth xs 1).cells 5).intOf (nth (nth xs 1).cells 6).strOf (nth (nth xs 1).cells 7).intOf (nth (nth xs 1).cells 8).strOf (nth (nth xs 1).cells 9).intOf (nth (nth xs 1).cells 10).strOf) cr85 (fun xs H Q => e85 (nth (nth xs 0).cells 0).intOf (nth (nth xs 0).cells 1).intOf (nth (nth xs 0).cells 2).intOf (nth (nth xs 0).cells 3).intOf (nth (nth xs 0).cells 4).strOf (nth (nth xs 0).cells 5).intOf (nth (nth xs 0).cells 6).strOf (nth (nth xs 0).cells 7).intOf (nth (nth xs 0).cells 8).strOf (nth (nth xs 0).cells 9).intOf (nth (nth xs 0).cells 10).strOf (nth (nth xs 1).cells 0).intOf (nth (nth xs 1).cells 1).intOf (nth (nth xs 1).cells 2).intOf (nth (nth xs 1).cells 3).intOf (nth (nth xs 1).cells 4).strOf (nth (nth xs 1).cells 5).intOf (nth (nth xs 1).cells 6).strOf (nth (nth xs 1).cells 7).intOf (nth (nth xs 1).cells 8).strOf (nth (nth xs 1).cells 9).intOf (nth (nth xs 1).cells 10).strOf Q) (fun xs H => o85 (nth (nth xs 0).cells 0).intOf (nth (nth xs 0).cells 1).intOf (nth (nth xs 0).cells 2).intOf (nth (nth xs 0).cells 3).intOf (nth (nth xs 0).cells 4).strOf (nth (nth xs 0).cells 5).intOf (nth (nth xs 0).cells 6).strOf (nth (nth xs 0).cells 7).intOf (nth (nth xs 0).cells 8).strOf (nth (nth xs 0).cells 9).intOf (nth (nth xs 0).cells 10).strOf (nth (nth xs 1).cells 0).intOf (nth (nth xs 1).cells 1).intOf (nth (nth xs 1).cells 2).intOf (nth (nth xs 1).cells 3).intOf (nth (nth xs 1).cells 4).strOf (nth (nth xs 1).cells 5).intOf (nth (nth xs 1).cells 6).strOf (nth (nth xs 1).cells 7).intOf (nth (nth xs 1).cells 8).strOf (nth (nth xs 1).cells 9).intOf (nth (nth xs 1).cells 10).strOf) (by intro xs H x r h; exact (Option.some.inj h).symm)
/-! vedette/diff.Of -/
noncomputable def un24 : Nat → Bool := fun _ => false
noncomputable def cs24 : List (Nat × FS) := [(27, s27), (85, s85)]
theorem cr24 : CRight TA (cT cs24) := cT_right (cT_cons k27 (cT_cons k85 cT_nil))
noncomputable def c24_7 : Code := cB (cB (cL (cR (cR (cR (cB (cR (bodyOf Try.f24))))))))
abbrev P24_7 : Type := (List (List AV)) × (List (List AV)) × Bool × (List (List AV))
abbrev Y24_7 : Type := Bool × (List (List AV))
noncomputable def d24_7 (n9 : Bool) (n10 : Bool) (r9 : List (List AV)) (r10 : List (List AV)) (n11 : Bool) (r11 : List (List AV)) : Dt (P24_7 ⊕ Y24_7) :=
  .br ((r9.length : Int) == 0)
  (.br ((r10.length : Int) == 0)
    (.ret (.inr (n11, r11)))
    (.br ((r9.length : Int) == 0)
      (.br ((decide (0 < (r10.length : Int))) && true)
        (.br (epOk [(.i .i64)] (r10.getD 0 []) 0)
          (.br ((decide (0 < (r10.length : Int))) && true)
            (.br (epOk [(.i .i64), (.i .i64), (.i .i64), (.i .i64), .s, (.i .i64), .s, (.i .i64), .s, (.i .i64), .s] (r10.getD 0 []) 0)
              (.br (decide ((r11.length + 1) ≤ 268435456))
                (.br n11
                  (.br (n10 || true)
                    (.br ((decide (0 ≤ (r10.length : Int))) && (decide ((r10.length : Int) ≤ (r10.length : Int))))
                      (.br (decide (1 ≤ (r10.length : Int)))
                        (.ret (.inl (r9, ((r10.take (r10.length : Int).toNat).drop 1), false, [[(.int .i64 1), (.int .i64 ((nth (r10.getD 0 []) 0).intOf)), (.int .i64 ((nth (r10.getD 0 []) 0).intOf)), (.int .i64 ((nth (r10.getD 0 []) 1).intOf)), (.int .i64 ((nth (r10.getD 0 []) 2).intOf)), (.int .i64 ((nth (r10.getD 0 []) 3).intOf)), (.str ((nth (r10.getD 0 []) 4).strOf)), (.int .i64 ((nth (r10.getD 0 []) 5).intOf)), (.str ((nth (r10.getD 0 []) 6).strOf)), (.int .i64 ((nth (r10.getD 0 []) 7).intOf)), (.str ((nth (r10.getD 0 []) 8).strOf)), (.int .i64 ((nth (r10.getD 0 []) 9).intOf)), (.str ((nth (r10.getD 0 []) 10).strOf)), (.int .i64 0), (.int .u8 0), (.int .i64 0), (.int .i64 0), (.int .i64 0), (.str []), (.int .i64 0), (.str []), (.int .i64 0), (.str []), (.int .i64 0), (.str [])]]))) (.fail)) (.fail)) (.fail))
                  (.br (n10 || true)
                    (.br ((decide (0 ≤ (r10.length : Int))) && (decide ((r10.length : Int) ≤ (r10.length : Int))))
                      (.br (decide (1 ≤ (r10.length : Int)))
                        (.ret (.inl (r9, ((r10.take (r10.length : Int).toNat).drop 1), false, (r11 ++ ([[(.int .i64 1), (.int .i64 ((nth (r10.getD 0 []) 0).intOf)), (.int .i64 ((nth (r10.getD 0 []) 0).intOf)), (.int .i64 ((nth (r10.getD 0 []) 1).intOf)), (.int .i64 ((nth (r10.getD 0 []) 2).intOf)), (.int .i64 ((nth (r10.getD 0 []) 3).intOf)), (.str ((nth (r10.getD 0 []) 4).strOf)), (.int .i64 ((nth (r10.getD 0 []) 5).intOf)), (.str ((nth (r10.getD 0 []) 6).strOf)), (.int .i64 ((nth (r10.getD 0 []) 7).intOf)), (.str ((nth (r10.getD 0 []) 8).strOf)), (.int .i64 ((nth (r10.getD 0 []) 9).intOf)), (.str ((nth (r10.getD 0 []) 10).strOf)), (.int .i64 0), (.int .u8 0), (.int .i64 0), (.int .i64 0), (.int .i64 0), (.str []), (.int .i64 0), (.str []), (.int .i64 0), (.str []), (.int .i64 0), (.str [])]] : List (List AV)))))) (.fail)) (.fail)) (.fail))) (.fail)) (.fail)) (.fail)) (.fail)) (.fail))
      (.br (decide (0 < (r10.length : Int)))
        (.br ((decide (0 < (r10.length : Int))) && true)
          (.br (epOk [(.i .i64)] (r10.getD 0 []) 0)
            (.br ((decide (0 < (r9.length : Int))) && true)
              (.br (epOk [(.i .i64)] (r9.getD 0 []) 0)
                (.br (decide ((nth (r10.getD 0 []) 0).intOf < (nth (r9.getD 0 []) 0).intOf))
                  (.br ((decide (0 < (r10.length : Int))) && true)
                    (.br (epOk [(.i .i64)] (r10.getD 0 []) 0)
                      (.br ((decide (0 < (r10.length : Int))) && true)
                        (.br (epOk [(.i .i64), (.i .i64), (.i .i64), (.i .i64), .s, (.i .i64), .s, (.i .i64), .s, (.i .i64), .s] (r10.getD 0 []) 0)
                          (.br (decide ((r11.length + 1) ≤ 268435456))
                            (.br n11
                              (.br (n10 || true)
                                (.br ((decide (0 ≤ (r10.length : Int))) && (decide ((r10.length : Int) ≤ (r10.length : Int))))
                                  (.br (decide (1 ≤ (r10.length : Int)))
                                    (.ret (.inl (r9, ((r10.take (r10.length : Int).toNat).drop 1), false, [[(.int .i64 1), (.int .i64 ((nth (r10.getD 0 []) 0).intOf)), (.int .i64 ((nth (r10.getD 0 []) 0).intOf)), (.int .i64 ((nth (r10.getD 0 []) 1).intOf)), (.int .i64 ((nth (r10.getD 0 []) 2).intOf)), (.int .i64 ((nth (r10.getD 0 []) 3).intOf)), (.str ((nth (r10.getD 0 []) 4).strOf)), (.int .i64 ((nth (r10.getD 0 []) 5).intOf)), (.str ((nth (r10.getD 0 []) 6).strOf)), (.int .i64 ((nth (r10.getD 0 []) 7).intOf)), (.str ((nth (r10.getD 0 []) 8).strOf)), (.int .i64 ((nth (r10.getD 0 []) 9).intOf)), (.str ((nth (r10.getD 0 []) 10).strOf)), (.int .i64 0), (.int .u8 0), (.int .i64 0), (.int .i64 0), (.int .i64 0), (.str []), (.int .i64 0), (.str []), (.int .i64 0), (.str []), (.int .i64 0), (.str [])]]))) (.fail)) (.fail)) (.fail))
                              (.br (n10 || true)
                                (.br ((decide (0 ≤ (r10.length : Int))) && (decide ((r10.length : Int) ≤ (r10.length : Int))))
                                  (.br (decide (1 ≤ (r10.length : Int)))
                                    (.ret (.inl (r9, ((r10.take (r10.length : Int).toNat).drop 1), false, (r11 ++ ([[(.int .i64 1), (.int .i64 ((nth (r10.getD 0 []) 0).intOf)), (.int .i64 ((nth (r10.getD 0 []) 0).intOf)), (.int .i64 ((nth (r10.getD 0 []) 1).intOf)), (.int .i64 ((nth (r10.getD 0 []) 2).intOf)), (.int .i64 ((nth (r10.getD 0 []) 3).intOf)), (.str ((nth (r10.getD 0 []) 4).strOf)), (.int .i64 ((nth (r10.getD 0 []) 5).intOf)), (.str ((nth (r10.getD 0 []) 6).strOf)), (.int .i64 ((nth (r10.getD 0 []) 7).intOf)), (.str ((nth (r10.getD 0 []) 8).strOf)), (.int .i64 ((nth (r10.getD 0 []) 9).intOf)), (.str ((nth (r10.getD 0 []) 10).strOf)), (.int .i64 0), (.int .u8 0), (.int .i64 0), (.int .i64 0), (.int .i64 0), (.str []), (.int .i64 0), (.str []), (.int .i64 0), (.str []), (.int .i64 0), (.str [])]] : List (List AV)))))) (.fail)) (.fail)) (.fail))) (.fail)) (.fail)) (.fail)) (.fail)) (.fail))
                  (.br ((r10.length : Int) == 0)
                    (.br ((decide (0 < (r9.length : Int))) && true)
                      (.br (epOk [(.i .i64)] (r9.getD 0 []) 0)
                        (.br (decide ((r11.length + 1) ≤ 268435456))
                          (.br n11
                            (.br (n9 || true)
                              (.br ((decide (0 ≤ (r9.length : Int))) && (decide ((r9.length : Int) ≤ (r9.length : Int))))
                                (.br (decide (1 ≤ (r9.length : Int)))
                                  (.ret (.inl (((r9.take (r9.length : Int).toNat).drop 1), r10, false, [[(.int .i64 3), (.int .i64 ((nth (r9.getD 0 []) 0).intOf)), (.int .i64 0), (.int .i64 0), (.int .i64 0), (.int .i64 0), (.str []), (.int .i64 0), (.str []), (.int .i64 0), (.str []), (.int .i64 0), (.str []), (.int .i64 0), (.int .u8 0), (.int .i64 0), (.int .i64 0), (.int .i64 0), (.str []), (.int .i64 0), (.str []), (.int .i64 0), (.str []), (.int .i64 0), (.str [])]]))) (.fail)) (.fail)) (.fail))
                            (.br (n9 || true)
                              (.br ((decide (0 ≤ (r9.length : Int))) && (decide ((r9.length : Int) ≤ (r9.length : Int))))
                                (.br (decide (1 ≤ (r9.length : Int)))
                                  (.ret (.inl (((r9.take (r9.length : Int).toNat).drop 1), r10, false, (r11 ++ ([[(.int .i64 3), (.int .i64 ((nth (r9.getD 0 []) 0).intOf)), (.int .i64 0), (.int .i64 0), (.int .i64 0), (.int .i64 0), (.str []), (.int .i64 0), (.str []), (.int .i64 0), (.str []), (.int .i64 0), (.str []), (.int .i64 0), (.int .u8 0), (.int .i64 0), (.int .i64 0), (.int .i64 0), (.str []), (.int .i64 0), (.str []), (.int .i64 0), (.str []), (.int .i64 0), (.str [])]] : List (List AV)))))) (.fail)) (.fail)) (.fail))) (.fail)) (.fail)) (.fail))
                    (.br ((decide (0 < (r9.length : Int))) && true)
                      (.br (epOk [(.i .i64)] (r9.getD 0 []) 0)
                        (.br ((decide (0 < (r10.length : Int))) && true)
                          (.br (epOk [(.i .i64)] (r10.getD 0 []) 0)
                            (.br (decide ((nth (r9.getD 0 []) 0).intOf < (nth (r10.getD 0 []) 0).intOf))
                              (.br ((decide (0 < (r9.length : Int))) && true)
                                (.br (epOk [(.i .i64)] (r9.getD 0 []) 0)
                                  (.br (decide ((r11.length + 1) ≤ 268435456))
                                    (.br n11
                                      (.br (n9 || true)
                                        (.br ((decide (0 ≤ (r9.length : Int))) && (decide ((r9.length : Int) ≤ (r9.length : Int))))
                                          (.br (decide (1 ≤ (r9.length : Int)))
                                            (.ret (.inl (((r9.take (r9.length : Int).toNat).drop 1), r10, false, [[(.int .i64 3), (.int .i64 ((nth (r9.getD 0 []) 0).intOf)), (.int .i64 0), (.int .i64 0), (.int .i64 0), (.int .i64 0), (.str []), (.int .i64 0), (.str []), (.int .i64 0), (.str []), (.int .i64 0), (.str []), (.int .i64 0), (.int .u8 0), (.int .i64 0), (.int .i64 0), (.int .i64 0), (.str []), (.int .i64 0), (.str []), (.int .i64 0), (.str []), (.int .i64 0), (.str [])]]))) (.fail)) (.fail)) (.fail))
                                      (.br (n9 || true)
                                        (.br ((decide (0 ≤ (r9.length : Int))) && (decide ((r9.length : Int) ≤ (r9.length : Int))))
                                          (.br (decide (1 ≤ (r9.length : Int)))
                                            (.ret (.inl (((r9.take (r9.length : Int).toNat).drop 1), r10, false, (r11 ++ ([[(.int .i64 3), (.int .i64 ((nth (r9.getD 0 []) 0).intOf)), (.int .i64 0), (.int .i64 0), (.int .i64 0), (.int .i64 0), (.str []), (.int .i64 0), (.str []), (.int .i64 0), (.str []), (.int .i64 0), (.str []), (.int .i64 0), (.int .u8 0), (.int .i64 0), (.int .i64 0), (.int .i64 0), (.str []), (.int .i64 0), (.str []), (.int .i64 0), (.str []), (.int .i64 0), (.str [])]] : List (List AV)))))) (.fail)) (.fail)) (.fail))) (.fail)) (.fail)) (.fail))
                              (.br ((decide (0 < (r9.length : Int))) && true)
                                (.br (epOk [(.i .i64), (.i .i64), (.i .i64), (.i .i64), .s, (.i .i64), .s, (.i .i64), .s, (.i .i64), .s] (r9.getD 0 []) 0)
                                  (.br ((decide (0 < (r10.length : Int))) && true)
                                    (.br (epOk [(.i .i64), (.i .i64), (.i .i64), (.i .i64), .s, (.i .i64), .s, (.i .i64), .s, (.i .i64), .s] (r10.getD 0 []) 0)
                                      (Dt.opt (v85 ((nth (r9.getD 0 []) 0).intOf) ((nth (r9.getD 0 []) 1).intOf) ((nth (r9.getD 0 []) 2).intOf) ((nth (r9.getD 0 []) 3).intOf) ((nth (r9.getD 0 []) 4).strOf) ((nth (r9.getD 0 []) 5).intOf) ((nth (r9.getD 0 []) 6).strOf) ((nth (r9.getD 0 []) 7).intOf) ((nth (r9.getD 0 []) 8).strOf) ((nth (r9.getD 0 []) 9).intOf) ((nth (r9.getD 0 []) 10).strOf) ((nth (r10.getD 0 []) 0).intOf) ((nth (r10.getD 0 []) 1).intOf) ((nth (r10.getD 0 []) 2).intOf) ((nth (r10.getD 0 []) 3).intOf) ((nth (r10.getD 0 []) 4).strOf) ((nth (r10.getD 0 []) 5).intOf) ((nth (r10.getD 0 []) 6).strOf) ((nth (r10.getD 0 []) 7).intOf) ((nth (r10.getD 0 []) 8).strOf) ((nth (r10.getD 0 []) 9).intOf) ((nth (r10.getD 0 []) 10).strOf)) fun y3 =>
                                        .br y3.2.2.2.2.2.2.2.2.2.2.2
                                        (.br (decide ((r11.length + 1) ≤ 268435456))
                                          (.br n11
                                            (.br (n9 || true)
                                              (.br ((decide (0 ≤ (r9.length : Int))) && (decide ((r9.length : Int) ≤ (r9.length : Int))))
                                                (.br (decide (1 ≤ (r9.length : Int)))
                                                  (.br (n10 || true)
                                                    (.br ((decide (0 ≤ (r10.length : Int))) && (decide ((r10.length : Int) ≤ (r10.length : Int))))
                                                      (.br (decide (1 ≤ (r10.length : Int)))
                                                        (.ret (.inl (((r9.take (r9.length : Int).toNat).drop 1), ((r10.take (r10.length : Int).toNat).drop 1), false, [[(.int .i64 2), (.int .i64 ((nth (r10.getD 0 []) 0).intOf)), (.int .i64 0), (.int .i64 0), (.int .i64 0), (.int .i64 0), (.str []), (.int .i64 0), (.str []), (.int .i64 0), (.str []), (.int .i64 0), (.str []), (.int .i64 ((nth (r10.getD 0 []) 0).intOf)), (.int .u8 y3.1), (.int .i64 y3.2.1), (.int .i64 y3.2.2.1), (.int .i64 y3.2.2.2.1), (.str y3.2.2.2.2.1), (.int .i64 y3.2.2.2.2.2.1), (.str y3.2.2.2.2.2.2.1), (.int .i64 y3.2.2.2.2.2.2.2.1), (.str y3.2.2.2.2.2.2.2.2.1), (.int .i64 y3.2.2.2.2.2.2.2.2.2.1), (.str y3.2.2.2.2.2.2.2.2.2.2.1)]]))) (.fail)) (.fail)) (.fail)) (.fail)) (.fail)) (.fail))
                                            (.br (n9 || true)
                                              (.br ((decide (0 ≤ (r9.length : Int))) && (decide ((r9.length : Int) ≤ (r9.length : Int))))
                                                (.br (decide (1 ≤ (r9.length : Int)))
                                                  (.br (n10 || true)
                                                    (.br ((decide (0 ≤ (r10.length : Int))) && (decide ((r10.length : Int) ≤ (r10.length : Int))))
                                                      (.br (decide (1 ≤ (r10.length : Int)))
                                                        (.ret (.inl (((r9.take (r9.length : Int).toNat).drop 1), ((r10.take (r10.length : Int).toNat).drop 1), false, (r11 ++ ([[(.int .i64 2), (.int .i64 ((nth (r10.getD 0 []) 0).intOf)), (.int .i64 0), (.int .i64 0), (.int .i64 0), (.int .i64 0), (.str []), (.int .i64 0), (.str []), (.int .i64 0), (.str []), (.int .i64 0), (.str []), (.int .i64 ((nth (r10.getD 0 []) 0).intOf)), (.int .u8 y3.1), (.int .i64 y3.2.1), (.int .i64 y3.2.2.1), (.int .i64 y3.2.2.2.1), (.str y3.2.2.2.2.1), (.int .i64 y3.2.2.2.2.2.1), (.str y3.2.2.2.2.2.2.1), (.int .i64 y3.2.2.2.2.2.2.2.1), (.str y3.2.2.2.2.2.2.2.2.1), (.int .i64 y3.2.2.2.2.2.2.2.2.2.1), (.str y3.2.2.2.2.2.2.2.2.2.2.1)]] : List (List AV)))))) (.fail)) (.fail)) (.fail)) (.fail)) (.fail)) (.fail))) (.fail))
                                        (.br (n9 || true)
                                          (.br ((decide (0 ≤ (r9.length : Int))) && (decide ((r9.length : Int) ≤ (r9.length : Int))))
                                            (.br (decide (1 ≤ (r9.length : Int)))
                                              (.br (n10 || true)
                                                (.br ((decide (0 ≤ (r10.length : Int))) && (decide ((r10.length : Int) ≤ (r10.length : Int))))
                                                  (.br (decide (1 ≤ (r10.length : Int)))
                                                    (.ret (.inl (((r9.take (r9.length : Int).toNat).drop 1), ((r10.take (r10.length : Int).toNat).drop 1), n11, r11))) (.fail)) (.fail)) (.fail)) (.fail)) (.fail)) (.fail))) (.fail)) (.fail)) (.fail)) (.fail))) (.fail)) (.fail)) (.fail)) (.fail)))) (.fail)) (.fail)) (.fail)) (.fail))
        (.br ((r10.length : Int) == 0)
          (.br ((decide (0 < (r9.length : Int))) && true)
            (.br (epOk [(.i .i64)] (r9.getD 0 []) 0)
              (.br (decide ((r11.length + 1) ≤ 268435456))
                (.br n11
                  (.br (n9 || true)
                    (.br ((decide (0 ≤ (r9.length : Int))) && (decide ((r9.length : Int) ≤ (r9.length : Int))))
                      (.br (decide (1 ≤ (r9.length : Int)))
                        (.ret (.inl (((r9.take (r9.length : Int).toNat).drop 1), r10, false, [[(.int .i64 3), (.int .i64 ((nth (r9.getD 0 []) 0).intOf)), (.int .i64 0), (.int .i64 0), (.int .i64 0), (.int .i64 0), (.str []), (.int .i64 0), (.str []), (.int .i64 0), (.str []), (.int .i64 0), (.str []), (.int .i64 0), (.int .u8 0), (.int .i64 0), (.int .i64 0), (.int .i64 0), (.str []), (.int .i64 0), (.str []), (.int .i64 0), (.str []), (.int .i64 0), (.str [])]]))) (.fail)) (.fail)) (.fail))
                  (.br (n9 || true)
                    (.br ((decide (0 ≤ (r9.length : Int))) && (decide ((r9.length : Int) ≤ (r9.length : Int))))
                      (.br (decide (1 ≤ (r9.length : Int)))
                        (.ret (.inl (((r9.take (r9.length : Int).toNat).drop 1), r10, false, (r11 ++ ([[(.int .i64 3), (.int .i64 ((nth (r9.getD 0 []) 0).intOf)), (.int .i64 0), (.int .i64 0), (.int .i64 0), (.int .i64 0), (.str []), (.int .i64 0), (.str []), (.int .i64 0), (.str []), (.int .i64 0), (.str []), (.int .i64 0), (.int .u8 0), (.int .i64 0), (.int .i64 0), (.int .i64 0), (.str []), (.int .i64 0), (.str []), (.int .i64 0), (.str []), (.int .i64 0), (.str [])]] : List (List AV)))))) (.fail)) (.fail)) (.fail))) (.fail)) (.fail)) (.fail))
          (.br ((decide (0 < (r9.length : Int))) && true)
            (.br (epOk [(.i .i64)] (r9.getD 0 []) 0)
              (.br ((decide (0 < (r10.length : Int))) && true)
                (.br (epOk [(.i .i64)] (r10.getD 0 []) 0)
                  (.br (decide ((nth (r9.getD 0 []) 0).intOf < (nth (r10.getD 0 []) 0).intOf))
                    (.br ((decide (0 < (r9.length : Int))) && true)
                      (.br (epOk [(.i .i64)] (r9.getD 0 []) 0)
                        (.br (decide ((r11.length + 1) ≤ 268435456))
                          (.br n11
                            (.br (n9 || true)
                              (.br ((decide (0 ≤ (r9.length : Int))) && (decide ((r9.length : Int) ≤ (r9.length : Int))))
                                (.br (decide (1 ≤ (r9.length : Int)))
                                  (.ret (.inl (((r9.take (r9.length : Int).toNat).drop 1), r10, false, [[(.int .i64 3), (.int .i64 ((nth (r9.getD 0 []) 0).intOf)), (.int .i64 0), (.int .i64 0), (.int .i64 0), (.int .i64 0), (.str []), (.int .i64 0), (.str []), (.int .i64 0), (.str []), (.int .i64 0), (.str []), (.int .i64 0), (.int .u8 0), (.int .i64 0), (.int .i64 0), (.int .i64 0), (.str []), (.int .i64 0), (.str []), (.int .i64 0), (.str []), (.int .i64 0), (.str [])]]))) (.fail)) (.fail)) (.fail))
                            (.br (n9 || true)
                              (.br ((decide (0 ≤ (r9.length : Int))) && (decide ((r9.length : Int) ≤ (r9.length : Int))))
                                (.br (decide (1 ≤ (r9.length : Int)))
                                  (.ret (.inl (((r9.take (r9.length : Int).toNat).drop 1), r10, false, (r11 ++ ([[(.int .i64 3), (.int .i64 ((nth (r9.getD 0 []) 0).intOf)), (.int .i64 0), (.int .i64 0), (.int .i64 0), (.int .i64 0), (.str []), (.int .i64 0), (.str []), (.int .i64 0), (.str []), (.int .i64 0), (.str []), (.int .i64 0), (.int .u8 0), (.int .i64 0), (.int .i64 0), (.int .i64 0), (.str []), (.int .i64 0), (.str []), (.int .i64 0), (.str []), (.int .i64 0), (.str [])]] : List (List AV)))))) (.fail)) (.fail)) (.fail))) (.fail)) (.fail)) (.fail))
                    (.br ((decide (0 < (r9.length : Int))) && true)
                      (.br (epOk [(.i .i64), (.i .i64), (.i .i64), (.i .i64), .s, (.i .i64), .s, (.i .i64), .s, (.i .i64), .s] (r9.getD 0 []) 0)
                        (.br ((decide (0 < (r10.length : Int))) && true)
                          (.br (epOk [(.i .i64), (.i .i64), (.i .i64), (.i .i64), .s, (.i .i64), .s, (.i .i64), .s, (.i .i64), .s] (r10.getD 0 []) 0)
                            (Dt.opt (v85 ((nth (r9.getD 0 []) 0).intOf) ((nth (r9.getD 0 []) 1).intOf) ((nth (r9.getD 0 []) 2).intOf) ((nth (r9.getD 0 []) 3).intOf) ((nth (r9.getD 0 []) 4).strOf) ((nth (r9.getD 0 []) 5).intOf) ((nth (r9.getD 0 []) 6).strOf) ((nth (r9.getD 0 []) 7).intOf) ((nth (r9.getD 0 []) 8).strOf) ((nth (r9.getD 0 []) 9).intOf) ((nth (r9.getD 0 []) 10).strOf) ((nth (r10.getD 0 []) 0).intOf) ((nth (r10.getD 0 []) 1).intOf) ((nth (r10.getD 0 []) 2).intOf) ((nth (r10.getD 0 []) 3).intOf) ((nth (r10.getD 0 []) 4).strOf) ((nth (r10.getD 0 []) 5).intOf) ((nth (r10.getD 0 []) 6).strOf) ((nth (r10.getD 0 []) 7).intOf) ((nth (r10.getD 0 []) 8).strOf) ((nth (r10.getD 0 []) 9).intOf) ((nth (r10.getD 0 []) 10).strOf)) fun y4 =>
                              .br y4.2.2.2.2.2.2.2.2.2.2.2
                              (.br (decide ((r11.length + 1) ≤ 268435456))
                                (.br n11
                                  (.br (n9 || true)
                                    (.br ((decide (0 ≤ (r9.length : Int))) && (decide ((r9.length : Int) ≤ (r9.length : Int))))
                                      (.br (decide (1 ≤ (r9.length : Int)))
                                        (.br (n10 || true)
                                          (.br ((decide (0 ≤ (r10.length : Int))) && (decide ((r10.length : Int) ≤ (r10.length : Int))))
                                            (.br (decide (1 ≤ (r10.length : Int)))
                                              (.ret (.inl (((r9.take (r9.length : Int).toNat).drop 1), ((r10.take (r10.length : Int).toNat).drop 1), false, [[(.int .i64 2), (.int .i64 ((nth (r10.getD 0 []) 0).intOf)), (.int .i64 0), (.int .i64 0), (.int .i64 0), (.int .i64 0), (.str []), (.int .i64 0), (.str []), (.int .i64 0), (.str []), (.int .i64 0), (.str []), (.int .i64 ((nth (r10.getD 0 []) 0).intOf)), (.int .u8 y4.1), (.int .i64 y4.2.1), (.int .i64 y4.2.2.1), (.int .i64 y4.2.2.2.1), (.str y4.2.2.2.2.1), (.int .i64 y4.2.2.2.2.2.1), (.str y4.2.2.2.2.2.2.1), (.int .i64 y4.2.2.2.2.2.2.2.1), (.str y4.2.2.2.2.2.2.2.2.1), (.int .i64 y4.2.2.2.2.2.2.2.2.2.1), (.str y4.2.2.2.2.2.2.2.2.2.2.1)]]))) (.fail)) (.fail)) (.fail)) (.fail)) (.fail)) (.fail))
                                  (.br (n9 || true)
                                    (.br ((decide (0 ≤ (r9.length : Int))) && (decide ((r9.length : Int) ≤ (r9.length : Int))))
                                      (.br (decide (1 ≤ (r9.length : Int)))
                                        (.br (n10 || true)
                                          (.br ((decide (0 ≤ (r10.length : Int))) && (decide ((r10.length : Int) ≤ (r10.length : Int))))
                                            (.br (decide (1 ≤ (r10.length : Int)))
                                              (.ret (.inl (((r9.take (r9.length : Int).toNat).drop 1), ((r10.take (r10.length : Int).toNat).drop 1), false, (r11 ++ ([[(.int .i64 2), (.int .i64 ((nth (r10.getD 0 []) 0).intOf)), (.int .i64 0), (.int .i64 0), (.int .i64 0), (.int .i64 0), (.str []), (.int .i64 0), (.str []), (.int .i64 0), (.str []), (.int .i64 0), (.str []), (.int .i64 ((nth (r10.getD 0 []) 0).intOf)), (.int .u8 y4.1), (.int .i64 y4.2.1), (.int .i64 y4.2.2.1), (.int .i64 y4.2.2.2.1), (.str y4.2.2.2.2.1), (.int .i64 y4.2.2.2.2.2.1), (.str y4.2.2.2.2.2.2.1), (.int .i64 y4.2.2.2.2.2.2.2.1), (.str y4.2.2.2.2.2.2.2.2.1), (.int .i64 y4.2.2.2.2.2.2.2.2.2.1), (.str y4.2.2.2.2.2.2.2.2.2.2.1)]] : List (List AV)))))) (.fail)) (.fail)) (.fail)) (.fail)) (.fail)) (.fail))) (.fail))
                              (.br (n9 || true)
                                (.br ((decide (0 ≤ (r9.length : Int))) && (decide ((r9.length : Int) ≤ (r9.length : Int))))
                                  (.br (decide (1 ≤ (r9.length : Int)))
                                    (.br (n10 || true)
                                      (.br ((decide (0 ≤ (r10.length : Int))) && (decide ((r10.length : Int) ≤ (r10.length : Int))))
                                        (.br (decide (1 ≤ (r10.length : Int)))
                                          (.ret (.inl (((r9.take (r9.length : Int).toNat).drop 1), ((r10.take (r10.length : Int).toNat).drop 1), n11, r11))) (.fail)) (.fail)) (.fail)) (.fail)) (.fail)) (.fail))) (.fail)) (.fail)) (.fail)) (.fail))) (.fail)) (.fail)) (.fail)) (.fail))))))
  (.br ((r9.length : Int) == 0)
    (.br ((decide (0 < (r10.length : Int))) && true)
      (.br (epOk [(.i .i64)] (r10.getD 0 []) 0)
        (.br ((decide (0 < (r10.length : Int))) && true)
          (.br (epOk [(.i .i64), (.i .i64), (.i .i64), (.i .i64), .s, (.i .i64), .s, (.i .i64), .s, (.i .i64), .s] (r10.getD 0 []) 0)
            (.br (decide ((r11.length + 1) ≤ 268435456))
              (.br n11
                (.br (n10 || true)
                  (.br ((decide (0 ≤ (r10.length : Int))) && (decide ((r10.length : Int) ≤ (r10.length : Int))))
                    (.br (decide (1 ≤ (r10.length : Int)))
                      (.ret (.inl (r9, ((r10.take (r10.length : Int).toNat).drop 1), false, [[(.int .i64 1), (.int .i64 ((nth (r10.getD 0 []) 0).intOf)), (.int .i64 ((nth (r10.getD 0 []) 0).intOf)), (.int .i64 ((nth (r10.getD 0 []) 1).intOf)), (.int .i64 ((nth (r10.getD 0 []) 2).intOf)), (.int .i64 ((nth (r10.getD 0 []) 3).intOf)), (.str ((nth (r10.getD 0 []) 4).strOf)), (.int .i64 ((nth (r10.getD 0 []) 5).intOf)), (.str ((nth (r10.getD 0 []) 6).strOf)), (.int .i64 ((nth (r10.getD 0 []) 7).intOf)), (.str ((nth (r10.getD 0 []) 8).strOf)), (.int .i64 ((nth (r10.getD 0 []) 9).intOf)), (.str ((nth (r10.getD 0 []) 10).strOf)), (.int .i64 0), (.int .u8 0), (.int .i64 0), (.int .i64 0), (.int .i64 0), (.str []), (.int .i64 0), (.str []), (.int .i64 0), (.str []), (.int .i64 0), (.str [])]]))) (.fail)) (.fail)) (.fail))
                (.br (n10 || true)
                  (.br ((decide (0 ≤ (r10.length : Int))) && (decide ((r10.length : Int) ≤ (r10.length : Int))))
                    (.br (decide (1 ≤ (r10.length : Int)))
                      (.ret (.inl (r9, ((r10.take (r10.length : Int).toNat).drop 1), false, (r11 ++ ([[(.int .i64 1), (.int .i64 ((nth (r10.getD 0 []) 0).intOf)), (.int .i64 ((nth (r10.getD 0 []) 0).intOf)), (.int .i64 ((nth (r10.getD 0 []) 1).intOf)), (.int .i64 ((nth (r10.getD 0 []) 2).intOf)), (.int .i64 ((nth (r10.getD 0 []) 3).intOf)), (.str ((nth (r10.getD 0 []) 4).strOf)), (.int .i64 ((nth (r10.getD 0 []) 5).intOf)), (.str ((nth (r10.getD 0 []) 6).strOf)), (.int .i64 ((nth (r10.getD 0 []) 7).intOf)), (.str ((nth (r10.getD 0 []) 8).strOf)), (.int .i64 ((nth (r10.getD 0 []) 9).intOf)), (.str ((nth (r10.getD 0 []) 10).strOf)), (.int .i64 0), (.int .u8 0), (.int .i64 0), (.int .i64 0), (.int .i64 0), (.str []), (.int .i64 0), (.str []), (.int .i64 0), (.str []), (.int .i64 0), (.str [])]] : List (List AV)))))) (.fail)) (.fail)) (.fail))) (.fail)) (.fail)) (.fail)) (.fail)) (.fail))
    (.br (decide (0 < (r10.length : Int)))
      (.br ((decide (0 < (r10.length : Int))) && true)
        (.br (epOk [(.i .i64)] (r10.getD 0 []) 0)
          (.br ((decide (0 < (r9.length : Int))) && true)
            (.br (epOk [(.i .i64)] (r9.getD 0 []) 0)
              (.br (decide ((nth (r10.getD 0 []) 0).intOf < (nth (r9.getD 0 []) 0).intOf))
                (.br ((decide (0 < (r10.length : Int))) && true)
                  (.br (epOk [(.i .i64)] (r10.getD 0 []) 0)
                    (.br ((decide (0 < (r10.length : Int))) && true)
                      (.br (epOk [(.i .i64), (.i .i64), (.i .i64), (.i .i64), .s, (.i .i64), .s, (.i .i64), .s, (.i .i64), .s] (r10.getD 0 []) 0)
                        (.br (decide ((r11.length + 1) ≤ 268435456))
                          (.br n11
                            (.br (n10 || true)
                              (.br ((decide (0 ≤ (r10.length : Int))) && (decide ((r10.length : Int) ≤ (r10.length : Int))))
                                (.br (decide (1 ≤ (r10.length : Int)))
                                  (.ret (.inl (r9, ((r10.take (r10.length : Int).toNat).drop 1), false, [[(.int .i64 1), (.int .i64 ((nth (r10.getD 0 []) 0).intOf)), (.int .i64 ((nth (r10.getD 0 []) 0).intOf)), (.int .i64 ((nth (r10.getD 0 []) 1).intOf)), (.int .i64 ((nth (r10.getD 0 []) 2).intOf)), (.int .i64 ((nth (r10.getD 0 []) 3).intOf)), (.str ((nth (r10.getD 0 []) 4).strOf)), (.int .i64 ((nth (r10.getD 0 []) 5).intOf)), (.str ((nth (r10.getD 0 []) 6).strOf)), (.int .i64 ((nth (r10.getD 0 []) 7).intOf)), (.str ((nth (r10.getD 0 []) 8).strOf)), (.int .i64 ((nth (r10.getD 0 []) 9).intOf)), (.str ((nth (r10.getD 0 []) 10).strOf)), (.int .i64 0), (.int .u8 0), (.int .i64 0), (.int .i64 0), (.int .i64 0), (.str []), (.int .i64 0), (.str []), (.int .i64 0), (.str []), (.int .i64 0), (.str [])]]))) (.fail)) (.fail)) (.fail))
                            (.br (n10 || true)
                              (.br ((decide (0 ≤ (r10.length : Int))) && (decide ((r10.length : Int) ≤ (r10.length : Int))))
                                (.br (decide (1 ≤ (r10.length : Int)))
                                  (.ret (.inl (r9, ((r10.take (r10.length : Int).toNat).drop 1), false, (r11 ++ ([[(.int .i64 1), (.int .i64 ((nth (r10.getD 0 []) 0).intOf)), (.int .i64 ((nth (r10.getD 0 []) 0).intOf)), (.int .i64 ((nth (r10.getD 0 []) 1).intOf)), (.int .i64 ((nth (r10.getD 0 []) 2).intOf)), (.int .i64 ((nth (r10.getD 0 []) 3).intOf)), (.str ((nth (r10.getD 0 []) 4).strOf)), (.int .i64 ((nth (r10.getD 0 []) 5).intOf)), (.str ((nth (r10.getD 0 []) 6).strOf)), (.int .i64 ((nth (r10.getD 0 []) 7).intOf)), (.str ((nth (r10.getD 0 []) 8).strOf)), (.int .i64 ((nth (r10.getD 0 []) 9).intOf)), (.str ((nth (r10.getD 0 []) 10).strOf)), (.int .i64 0), (.int .u8 0), (.int .i64 0), (.int .i64 0), (.int .i64 0), (.str []), (.int .i64 0), (.str []), (.int .i64 0), (.str []), (.int .i64 0), (.str [])]] : List (List AV)))))) (.fail)) (.fail)) (.fail))) (.fail)) (.fail)) (.fail)) (.fail)) (.fail))
                (.br ((r10.length : Int) == 0)
                  (.br ((decide (0 < (r9.length : Int))) && true)
                    (.br (epOk [(.i .i64)] (r9.getD 0 []) 0)
                      (.br (decide ((r11.length + 1) ≤ 268435456))
                        (.br n11
                          (.br (n9 || true)
                            (.br ((decide (0 ≤ (r9.length : Int))) && (decide ((r9.length : Int) ≤ (r9.length : Int))))
                              (.br (decide (1 ≤ (r9.length : Int)))
                                (.ret (.inl (((r9.take (r9.length : Int).toNat).drop 1), r10, false, [[(.int .i64 3), (.int .i64 ((nth (r9.getD 0 []) 0).intOf)), (.int .i64 0), (.int .i64 0), (.int .i64 0), (.int .i64 0), (.str []), (.int .i64 0), (.str []), (.int .i64 0), (.str []), (.int .i64 0), (.str []), (.int .i64 0), (.int .u8 0), (.int .i64 0), (.int .i64 0), (.int .i64 0), (.str []), (.int .i64 0), (.str []), (.int .i64 0), (.str []), (.int .i64 0), (.str [])]]))) (.fail)) (.fail)) (.fail))
                          (.br (n9 || true)
                            (.br ((decide (0 ≤ (r9.length : Int))) && (decide ((r9.length : Int) ≤ (r9.length : Int))))
                              (.br (decide (1 ≤ (r9.length : Int)))
                                (.ret (.inl (((r9.take (r9.length : Int).toNat).drop 1), r10, false, (r11 ++ ([[(.int .i64 3), (.int .i64 ((nth (r9.getD 0 []) 0).intOf)), (.int .i64 0), (.int .i64 0), (.int .i64 0), (.int .i64 0), (.str []), (.int .i64 0), (.str []), (.int .i64 0), (.str []), (.int .i64 0), (.str []), (.int .i64 0), (.int .u8 0), (.int .i64 0), (.int .i64 0), (.int .i64 0), (.str []), (.int .i64 0), (.str []), (.int .i64 0), (.str []), (.int .i64 0), (.str [])]] : List (List AV)))))) (.fail)) (.fail)) (.fail))) (.fail)) (.fail)) (.fail))
                  (.br ((decide (0 < (r9.length : Int))) && true)
                    (.br (epOk [(.i .i64)] (r9.getD 0 []) 0)
                      (.br ((decide (0 < (r10.length : Int))) && true)
                        (.br (epOk [(.i .i64)] (r10.getD 0 []) 0)
                          (.br (decide ((nth (r9.getD 0 []) 0).intOf < (nth (r10.getD 0 []) 0).intOf))
                            (.br ((decide (0 < (r9.length : Int))) && true)
                              (.br (epOk [(.i .i64)] (r9.getD 0 []) 0)
                                (.br (decide ((r11.length + 1) ≤ 268435456))
                                  (.br n11
                                    (.br (n9 || true)
                                      (.br ((decide (0 ≤ (r9.length : Int))) && (decide ((r9.length : Int) ≤ (r9.length : Int))))
                                        (.br (decide (1 ≤ (r9.length : Int)))
                                          (.ret (.inl (((r9.take (r9.length : Int).toNat).drop 1), r10, false, [[(.int .i64 3), (.int .i64 ((nth (r9.getD 0 []) 0).intOf)), (.int .i64 0), (.int .i64 0), (.int .i64 0), (.int .i64 0), (.str []), (.int .i64 0), (.str []), (.int .i64 0), (.str []), (.int .i64 0), (.str []), (.int .i64 0), (.int .u8 0), (.int .i64 0), (.int .i64 0), (.int .i64 0), (.str []), (.int .i64 0), (.str []), (.int .i64 0), (.str []), (.int .i64 0), (.str [])]]))) (.fail)) (.fail)) (.fail))
                                    (.br (n9 || true)
                                      (.br ((decide (0 ≤ (r9.length : Int))) && (decide ((r9.length : Int) ≤ (r9.length : Int))))
                                        (.br (decide (1 ≤ (r9.length : Int)))
                                          (.ret (.inl (((r9.take (r9.length : Int).toNat).drop 1), r10, false, (r11 ++ ([[(.int .i64 3), (.int .i64 ((nth (r9.getD 0 []) 0).intOf)), (.int .i64 0), (.int .i64 0), (.int .i64 0), (.int .i64 0), (.str []), (.int .i64 0), (.str []), (.int .i64 0), (.str []), (.int .i64 0), (.str []), (.int .i64 0), (.int .u8 0), (.int .i64 0), (.int .i64 0), (.int .i64 0), (.str []), (.int .i64 0), (.str []), (.int .i64 0), (.str []), (.int .i64 0), (.str [])]] : List (List AV)))))) (.fail)) (.fail)) (.fail))) (.fail)) (.fail)) (.fail))
                            (.br ((decide (0 < (r9.length : Int))) && true)
                              (.br (epOk [(.i .i64), (.i .i64), (.i .i64), (.i .i64), .s, (.i .i64), .s, (.i .i64), .s, (.i .i64), .s] (r9.getD 0 []) 0)
                                (.br ((decide (0 < (r10.length : Int))) && true)
                                  (.br (epOk [(.i .i64), (.i .i64), (.i .i64), (.i .i64), .s, (.i .i64), .s, (.i .i64), .s, (.i .i64), .s] (r10.getD 0 []) 0)
                                    (Dt.opt (v85 ((nth (r9.getD 0 []) 0).intOf) ((nth (r9.getD 0 []) 1).intOf) ((nth (r9.getD 0 []) 2).intOf) ((nth (r9.getD 0 []) 3).intOf) ((nth (r9.getD 0 []) 4).strOf) ((nth (r9.getD 0 []) 5).intOf) ((nth (r9.getD 0 []) 6).strOf) ((nth (r9.getD 0 []) 7).intOf) ((nth (r9.getD 0 []) 8).strOf) ((nth (r9.getD 0 []) 9).intOf) ((nth (r9.getD 0 []) 10).strOf) ((nth (r10.getD 0 []) 0).intOf) ((nth (r10.getD 0 []) 1).intOf) ((nth (r10.getD 0 []) 2).intOf) ((nth (r10.getD 0 []) 3).intOf) ((nth (r10.getD 0 []) 4).strOf) ((nth (r10.getD 0 []) 5).intOf) ((nth (r10.getD 0 []) 6).strOf) ((nth (r10.getD 0 []) 7).intOf) ((nth (r10.getD 0 []) 8).strOf) ((nth (r10.getD 0 []) 9).intOf) ((nth (r10.getD 0 []) 10).strOf)) fun y5 =>
                                      .br y5.2.2.2.2.2.2.2.2.2.2.2
                                      (.br (decide ((r11.length + 1) ≤ 268435456))
                                        (.br n11
                                          (.br (n9 || true)
                                            (.br ((decide (0 ≤ (r9.length : Int))) && (decide ((r9.length : Int) ≤ (r9.length : Int))))
                                              (.br (decide (1 ≤ (r9.length : Int)))
                                                (.br (n10 || true)
                                                  (.br ((decide (0 ≤ (r10.length : Int))) && (decide ((r10.length : Int) ≤ (r10.length : Int))))
                                                    (.br (decide (1 ≤ (r10.length : Int)))
                                                      (.ret (.inl (((r9.take (r9.length : Int).toNat).drop 1), ((r10.take (r10.length : Int).toNat).drop 1), false, [[(.int .i64 2), (.int .i64 ((nth (r10.getD 0 []) 0).intOf)), (.int .i64 0), (.int .i64 0), (.int .i64 0), (.int .i64 0), (.str []), (.int .i64 0), (.str []), (.int .i64 0), (.str []), (.int .i64 0), (.str []), (.int .i64 ((nth (r10.getD 0 []) 0).intOf)), (.int .u8 y5.1), (.int .i64 y5.2.1), (.int .i64 y5.2.2.1), (.int .i64 y5.2.2.2.1), (.str y5.2.2.2.2.1), (.int .i64 y5.2.2.2.2.2.1), (.str y5.2.2.2.2.2.2.1), (.int .i64 y5.2.2.2.2.2.2.2.1), (.str y5.2.2.2.2.2.2.2.2.1), (.int .i64 y5.2.2.2.2.2.2.2.2.2.1), (.str y5.2.2.2.2.2.2.2.2.2.2.1)]]))) (.fail)) (.fail)) (.fail)) (.fail)) (.fail)) (.fail))
                                          (.br (n9 || true)
                                            (.br ((decide (0 ≤ (r9.length : Int))) && (decide ((r9.length : Int) ≤ (r9.length : Int))))
                                              (.br (decide (1 ≤ (r9.length : Int)))
                                                (.br (n10 || true)
                                                  (.br ((decide (0 ≤ (r10.length : Int))) && (decide ((r10.length : Int) ≤ (r10.length : Int))))
                                                    (.br (decide (1 ≤ (r10.length : Int)))
                                                      (.ret (.inl (((r9.take (r9.length : Int).toNat).drop 1), ((r10.take (r10.length : Int).toNat).drop 1), false, (r11 ++ ([[(.int .i64 2), (.int .i64 ((nth (r10.getD 0 []) 0).intOf)), (.int .i64 0), (.int .i64 0), (.int .i64 0), (.int .i64 0), (.str []), (.int .i64 0), (.str []), (.int .i64 0), (.str []), (.int .i64 0), (.str []), (.int .i64 ((nth (r10.getD 0 []) 0).intOf)), (.int .u8 y5.1), (.int .i64 y5.2.1), (.int .i64 y5.2.2.1), (.int .i64 y5.2.2.2.1), (.str y5.2.2.2.2.1), (.int .i64 y5.2.2.2.2.2.1), (.str y5.2.2.2.2.2.2.1), (.int .i64 y5.2.2.2.2.2.2.2.1), (.str y5.2.2.2.2.2.2.2.2.1), (.int .i64 y5.2.2.2.2.2.2.2.2.2.1), (.str y5.2.2.2.2.2.2.2.2.2.2.1)]] : List (List AV)))))) (.fail)) (.fail)) (.fail)) (.fail)) (.fail)) (.fail))) (.fail))
                                      (.br (n9 || true)
                                        (.br ((decide (0 ≤ (r9.length : Int))) && (decide ((r9.length : Int) ≤ (r9.length : Int))))
                                          (.br (decide (1 ≤ (r9.length : Int)))
                                            (.br (n10 || true)
                                              (.br ((decide (0 ≤ (r10.length : Int))) && (decide ((r10.length : Int) ≤ (r10.length : Int))))
                                                (.br (decide (1 ≤ (r10.length : Int)))
                                                  (.ret (.inl (((r9.take (r9.length : Int).toNat).drop 1), ((r10.take (r10.length : Int).toNat).drop 1), n11, r11))) (.fail)) (.fail)) (.fail)) (.fail)) (.fail)) (.fail))) (.fail)) (.fail)) (.fail)) (.fail))) (.fail)) (.fail)) (.fail)) (.fail)))) (.fail)) (.fail)) (.fail)) (.fail))
      (.br ((r10.length : Int) == 0)
        (.br ((decide (0 < (r9.length : Int))) && true)
          (.br (epOk [(.i .i64)] (r9.getD 0 []) 0)
            (.br (decide ((r11.length + 1) ≤ 268435456))
              (.br n11
                (.br (n9 || true)
                  (.br ((decide (0 ≤ (r9.length : Int))) && (decide ((r9.length : Int) ≤ (r9.length : Int))))
                    (.br (decide (1 ≤ (r9.length : Int)))
                      (.ret (.inl (((r9.take (r9.length : Int).toNat).drop 1), r10, false, [[(.int .i64 3), (.int .i64 ((nth (r9.getD 0 []) 0).intOf)), (.int .i64 0), (.int .i64 0), (.int .i64 0), (.int .i64 0), (.str []), (.int .i64 0), (.str []), (.int .i64 0), (.str []), (.int .i64 0), (.str []), (.int .i64 0), (.int .u8 0), (.int .i64 0), (.int .i64 0), (.int .i64 0), (.str []), (.int .i64 0), (.str []), (.int .i64 0), (.str []), (.int .i64 0), (.str [])]]))) (.fail)) (.fail)) (.fail))
                (.br (n9 || true)
                  (.br ((decide (0 ≤ (r9.length : Int))) && (decide ((r9.length : Int) ≤ (r9.length : Int))))
                    (.br (decide (1 ≤ (r9.length : Int)))
                      (.ret (.inl (((r9.take (r9.length : Int).toNat).drop 1), r10, false, (r11 ++ ([[(.int .i64 3), (.int .i64 ((nth (r9.getD 0 []) 0).intOf)), (.int .i64 0), (.int .i64 0), (.int .i64 0), (.int .i64 0), (.str []), (.int .i64 0), (.str []), (.int .i64 0), (.str []), (.int .i64 0), (.str []), (.int .i64 0), (.int .u8 0), (.int .i64 0), (.int .i64 0), (.int .i64 0), (.str []), (.int .i64 0), (.str []), (.int .i64 0), (.str []), (.int .i64 0), (.str [])]] : List (List AV)))))) (.fail)) (.fail)) (.fail))) (.fail)) (.fail)) (.fail))
        (.br ((decide (0 < (r9.length : Int))) && true)
          (.br (epOk [(.i .i64)] (r9.getD 0 []) 0)
            (.br ((decide (0 < (r10.length : Int))) && true)
              (.br (epOk [(.i .i64)] (r10.getD 0 []) 0)
                (.br (decide ((nth (r9.getD 0 []) 0).intOf < (nth (r10.getD 0 []) 0).intOf))
                  (.br ((decide (0 < (r9.length : Int))) && true)
                    (.br (epOk [(.i .i64)] (r9.getD 0 []) 0)
                      (.br (decide ((r11.length + 1) ≤ 268435456))
                        (.br n11
                          (.br (n9 || true)
                            (.br ((decide (0 ≤ (r9.length : Int))) && (decide ((r9.length : Int) ≤ (r9.length : Int))))
                              (.br (decide (1 ≤ (r9.length : Int)))
                                (.ret (.inl (((r9.take (r9.length : Int).toNat).drop 1), r10, false, [[(.int .i64 3), (.int .i64 ((nth (r9.getD 0 []) 0).intOf)), (.int .i64 0), (.int .i64 0), (.int .i64 0), (.int .i64 0), (.str []), (.int .i64 0), (.str []), (.int .i64 0), (.str []), (.int .i64 0), (.str []), (.int .i64 0), (.int .u8 0), (.int .i64 0), (.int .i64 0), (.int .i64 0), (.str []), (.int .i64 0), (.str []), (.int .i64 0), (.str []), (.int .i64 0), (.str [])]]))) (.fail)) (.fail)) (.fail))
                          (.br (n9 || true)
                            (.br ((decide (0 ≤ (r9.length : Int))) && (decide ((r9.length : Int) ≤ (r9.length : Int))))
                              (.br (decide (1 ≤ (r9.length : Int)))
                                (.ret (.inl (((r9.take (r9.length : Int).toNat).drop 1), r10, false, (r11 ++ ([[(.int .i64 3), (.int .i64 ((nth (r9.getD 0 []) 0).intOf)), (.int .i64 0), (.int .i64 0), (.int .i64 0), (.int .i64 0), (.str []), (.int .i64 0), (.str []), (.int .i64 0), (.str []), (.int .i64 0), (.str []), (.int .i64 0), (.int .u8 0), (.int .i64 0), (.int .i64 0), (.int .i64 0), (.str []), (.int .i64 0), (.str []), (.int .i64 0), (.str []), (.int .i64 0), (.str [])]] : List (List AV)))))) (.fail)) (.fail)) (.fail))) (.fail)) (.fail)) (.fail))
                  (.br ((decide (0 < (r9.length : Int))) && true)
                    (.br (epOk [(.i .i64), (.i .i64), (.i .i64), (.i .i64), .s, (.i .i64), .s, (.i .i64), .s, (.i .i64), .s] (r9.getD 0 []) 0)
                      (.br ((decide (0 < (r10.length : Int))) && true)
                        (.br (epOk [(.i .i64), (.i .i64), (.i .i64), (.i .i64), .s, (.i .i64), .s, (.i .i64), .s, (.i .i64), .s] (r10.getD 0 []) 0)
                          (Dt.opt (v85 ((nth (r9.getD 0 []) 0).intOf) ((nth (r9.getD 0 []) 1).intOf) ((nth (r9.getD 0 []) 2).intOf) ((nth (r9.getD 0 []) 3).intOf) ((nth (r9.getD 0 []) 4).strOf) ((nth (r9.getD 0 []) 5).intOf) ((nth (r9.getD 0 []) 6).strOf) ((nth (r9.getD 0 []) 7).intOf) ((nth (r9.getD 0 []) 8).strOf) ((nth (r9.getD 0 []) 9).intOf) ((nth (r9.getD 0 []) 10).strOf) ((nth (r10.getD 0 []) 0).intOf) ((nth (r10.getD 0 []) 1).intOf) ((nth (r10.getD 0 []) 2).intOf) ((nth (r10.getD 0 []) 3).intOf) ((nth (r10.getD 0 []) 4).strOf) ((nth (r10.getD 0 []) 5).intOf) ((nth (r10.getD 0 []) 6).strOf) ((nth (r10.getD 0 []) 7).intOf) ((nth (r10.getD 0 []) 8).strOf) ((nth (r10.getD 0 []) 9).intOf) ((nth (r10.getD 0 []) 10).strOf)) fun y6 =>
                            .br y6.2.2.2.2.2.2.2.2.2.2.2
                            (.br (decide ((r11.length + 1) ≤ 268435456))
                              (.br n11
                                (.br (n9 || true)
                                  (.br ((decide (0 ≤ (r9.length : Int))) && (decide ((r9.length : Int) ≤ (r9.length : Int))))
                                    (.br (decide (1 ≤ (r9.length : Int)))
                                      (.br (n10 || true)
                                        (.br ((decide (0 ≤ (r10.length : Int))) && (decide ((r10.length : Int) ≤ (r10.length : Int))))
                                          (.br (decide (1 ≤ (r10.length : Int)))
                                            (.ret (.inl (((r9.take (r9.length : Int).toNat).drop 1), ((r10.take (r10.length : Int).toNat).drop 1), false, [[(.int .i64 2), (.int .i64 ((nth (r10.getD 0 []) 0).intOf)), (.int .i64 0), (.int .i64 0), (.int .i64 0), (.int .i64 0), (.str []), (.int .i64 0), (.str []), (.int .i64 0), (.str []), (.int .i64 0), (.str []), (.int .i64 ((nth (r10.getD 0 []) 0).intOf)), (.int .u8 y6.1), (.int .i64 y6.2.1), (.int .i64 y6.2.2.1), (.int .i64 y6.2.2.2.1), (.str y6.2.2.2.2.1), (.int .i64 y6.2.2.2.2.2.1), (.str y6.2.2.2.2.2.2.1), (.int .i64 y6.2.2.2.2.2.2.2.1), (.str y6.2.2.2.2.2.2.2.2.1), (.int .i64 y6.2.2.2.2.2.2.2.2.2.1), (.str y6.2.2.2.2.2.2.2.2.2.2.1)]]))) (.fail)) (.fail)) (.fail)) (.fail)) (.fail)) (.fail))
                                (.br (n9 || true)
                                  (.br ((decide (0 ≤ (r9.length : Int))) && (decide ((r9.length : Int) ≤ (r9.length : Int))))
                                    (.br (decide (1 ≤ (r9.length : Int)))
                                      (.br (n10 || true)
                                        (.br ((decide (0 ≤ (r10.length : Int))) && (decide ((r10.length : Int) ≤ (r10.length : Int))))
                                          (.br (decide (1 ≤ (r10.length : Int)))
                                            (.ret (.inl (((r9.take (r9.length : Int).toNat).drop 1), ((r10.take (r10.length : Int).toNat).drop 1), false, (r11 ++ ([[(.int .i64 2), (.int .i64 ((nth (r10.getD 0 []) 0).intOf)), (.int .i64 0), (.int .i64 0), (.int .i64 0), (.int .i64 0), (.str []), (.int .i64 0), (.str []), (.int .i64 0), (.str []), (.int .i64 0), (.str []), (.int .i64 ((nth (r10.getD 0 []) 0).intOf)), (.int .u8 y6.1), (.int .i64 y6.2.1), (.int .i64 y6.2.2.1), (.int .i64 y6.2.2.2.1), (.str y6.2.2.2.2.1), (.int .i64 y6.2.2.2.2.2.1), (.str y6.2.2.2.2.2.2.1), (.int .i64 y6.2.2.2.2.2.2.2.1), (.str y6.2.2.2.2.2.2.2.2.1), (.int .i64 y6.2.2.2.2.2.2.2.2.2.1), (.str y6.2.2.2.2.2.2.2.2.2.2.1)]] : List (List AV)))))) (.fail)) (.fail)) (.fail)) (.fail)) (.fail)) (.fail))) (.fail))
                            (.br (n9 || true)
                              (.br ((decide (0 ≤ (r9.length : Int))) && (decide ((r9.length : Int) ≤ (r9.length : Int))))
                                (.br (decide (1 ≤ (r9.length : Int)))
                                  (.br (n10 || true)
                                    (.br ((decide (0 ≤ (r10.length : Int))) && (decide ((r10.length : Int) ≤ (r10.length : Int))))
                                      (.br (decide (1 ≤ (r10.length : Int)))
                                        (.ret (.inl (((r9.take (r9.length : Int).toNat).drop 1), ((r10.take (r10.length : Int).toNat).drop 1), n11, r11))) (.fail)) (.fail)) (.fail)) (.fail)) (.fail)) (.fail))) (.fail)) (.fail)) (.fail)) (.fail))) (.fail)) (.fail)) (.fail)) (.fail)))))
noncomputable def w24_7 (n9 : Bool) (r9 : List (List AV)) (n10 : Bool) (r10 : List (List AV)) (n11 : Bool) (r11 : List (List AV)) : Option Y24_7 := loopV (fun p : P24_7 => d24_7 n9 n10 p.1 p.2.1 p.2.2.1 p.2.2.2) (r9, r10, n11, r11)
noncomputable def hd24_7 (n9 : Bool) (r9 : List (List AV)) (n10 : Bool) (r10 : List (List AV)) (n11 : Bool) (r11 : List (List AV)) : St := (stAt 110 false [(9, (.sl 11 n9 r9 .no)), (10, (.sl 11 n10 r10 .no)), (11, (.sl 25 n11 r11 (.tc 11)))] [] [])
noncomputable def ex24_7 (n9 : Bool) (n10 : Bool) (x : Y24_7) : Ex × St := ((.exit 0), (stAt 110 false [(11, (.sl 25 x.1 x.2 (.tc 11)))] [] []))
noncomputable def xd24_7 (n9 : Bool) (n10 : Bool) (x : Y24_7) : Dt (Ex × St) := .ret ((.exit 0), (stAt 110 false [(11, (.sl 25 x.1 x.2 (.tc 11)))] [] []))
noncomputable def lt24 : LT := fun rid st => bif Nat.beq rid 7 then Dt.opt (w24_7 (nth st.tm 9).slNil (nth st.tm 9).slRows (nth st.tm 10).slNil (nth st.tm 10).slRows (nth st.tm 11).slNil (nth st.tm 11).slRows) (xd24_7 (nth st.tm 9).slNil (nth st.tm 10).slNil) else .fail
theorem r24_7 (n9 : Bool) (n10 : Bool) (p : P24_7) (Q : Ex × St → Prop) : wpN TA (cT cs24) lt24 un24 80 (roundR TA 24 7 c24_7 (hd24_7 n9 p.1 n10 p.2.1 p.2.2.1 p.2.2.2)) Q = (d24_7 n9 n10 p.1 p.2.1 p.2.2.1 p.2.2.2).wp (fun o => Sum.rec (fun p => Q (.normal, hd24_7 n9 p.1 n10 p.2.1 p.2.2.1 p.2.2.2)) (fun x => Q (ex24_7 n9 n10 x)) o) := by kernel_rfl
theorem ob24_7 (n9 : Bool) (n10 : Bool) (p : P24_7) : (d24_7 n9 n10 p.1 p.2.1 p.2.2.1 p.2.2.2).obs := by
  unfold d24_7
  repeat' (first | exact trivial | apply And.intro)
theorem lok24_7 (n9 : Bool) (r9 : List (List AV)) (n10 : Bool) (r10 : List (List AV)) (n11 : Bool) (r11 : List (List AV)) : LoopOk TA 24 7 c24_7 (hd24_7 n9 r9 n10 r10 n11 r11) (Dt.opt (w24_7 n9 r9 n10 r10 n11 r11) (xd24_7 n9 n10)) :=
  loop_okD cr24 (fun p Q => r24_7 n9 n10 p Q) (fun p => ob24_7 n9 n10 p) (fun x h => by cases h) (by intro x r h; exact (Option.some.inj h).symm) (r9, r10, n11, r11)
abbrev X24 : Type := Bool × (List (List AV))
noncomputable def d24 (n0 : Bool) (r0 : List (List AV)) (x1_0 : Int) (x1_1 : Int) (x1_2 : Int) (x1_3 : Int) (n2 : Bool) (r2 : List (List AV)) (x3_0 : Int) (x3_1 : Int) (x3_2 : Int) (x3_3 : Int) : Dt X24 :=
  Dt.opt (v27 n0 r0 x1_0 x1_1 x1_2 x1_3) fun y1 =>
  Dt.opt (v27 n2 r2 x3_0 x3_1 x3_2 x3_3) fun y2 =>
  .ob (LoopOk TA 24 7 c24_7 (hd24_7 y1.1 y1.2 y2.1 y2.2 true []) (Dt.opt (w24_7 y1.1 y1.2 y2.1 y2.2 true []) (xd24_7 y1.1 y2.1)))
  (Dt.opt (w24_7 y1.1 y1.2 y2.1 y2.2 true []) fun y7 =>
    .ret (y7.1, y7.2))
noncomputable def v24 (n0 : Bool) (r0 : List (List AV)) (x1_0 : Int) (x1_1 : Int) (x1_2 : Int) (x1_3 : Int) (n2 : Bool) (r2 : List (List AV)) (x3_0 : Int) (x3_1 : Int) (x3_2 : Int) (x3_3 : Int) : Option X24 := (d24 n0 r0 x1_0 x1_1 x1_2 x1_3 n2 r2 x3_0 x3_1 x3_2 x3_3).val
noncomputable def sh24 (n0 : Bool) (r0 : List (List AV)) (x1_0 : Int) (x1_1 : Int) (x1_2 : Int) (x1_3 : Int) (n2 : Bool) (r2 : List (List AV)) (x3_0 : Int) (x3_1 : Int) (x3_2 : Int) (x3_3 : Int) (x : X24) : AV × List GB := ((.sl 25 x.1 x.2 (.tc 0)), [])
noncomputable def sd24 (n0 : Bool) (r0 : List (List AV)) (x1_0 : Int) (x1_1 : Int) (x1_2 : Int) (x1_3 : Int) (n2 : Bool) (r2 : List (List AV)) (x3_0 : Int) (x3_1 : Int) (x3_2 : Int) (x3_3 : Int) (x : X24) : Dt (AV × List GB) := .ret ((.sl 25 x.1 x.2 (.tc 0)), [])
noncomputable def s24 : FS := guardS [.c (.sl 11 .no), .agg [.i .i64, .i .i64, .i .i64, .i .i64], .c (.sl 11 .no), .agg [.i .i64, .i .i64, .i .i64, .i .i64]] [] fun xs H => Dt.opt (v24 (nth xs 0).slNil (nth xs 0).slRows (nth (nth xs 1).cells 0).intOf (nth (nth xs 1).cells 1).intOf (nth (nth xs 1).cells 2).intOf (nth (nth xs 1).cells 3).intOf (nth xs 2).slNil (nth xs 2).slRows (nth (nth xs 3).cells 0).intOf (nth (nth xs 3).cells 1).intOf (nth (nth xs 3).cells 2).intOf (nth (nth xs 3).cells 3).intOf) (sd24 (nth xs 0).slNil (nth xs 0).slRows (nth (nth xs 1).cells 0).intOf (nth (nth xs 1).cells 1).intOf (nth (nth xs 1).cells 2).intOf (nth (nth xs 1).cells 3).intOf (nth xs 2).slNil (nth xs 2).slRows (nth (nth xs 3).cells 0).intOf (nth (nth xs 3).cells 1).intOf (nth (nth xs 3).cells 2).intOf (nth (nth xs 3).cells 3).intOf)
theorem e24 (n0 : Bool) (r0 : List (List AV)) (x1_0 : Int) (x1_1 : Int) (x1_2 : Int) (x1_3 : Int) (n2 : Bool) (r2 : List (List AV)) (x3_0 : Int) (x3_1 : Int) (x3_2 : Int) (x3_3 : Int) (Q : AV × List GB → Prop) : wpN TA (cT cs24) lt24 un24 80 (evFunc TA 24 [(.sl 11 n0 r0 .no), (.agg [(.int .i64 x1_0), (.int .i64 x1_1), (.int .i64 x1_2), (.int .i64 x1_3)]), (.sl 11 n2 r2 .no), (.agg [(.int .i64 x3_0), (.int .i64 x3_1), (.int .i64 x3_2), (.int .i64 x3_3)])] []) Q = (d24 n0 r0 x1_0 x1_1 x1_2 x1_3 n2 r2 x3_0 x3_1 x3_2 x3_3).wp (fun x => Q (sh24 n0 r0 x1_0 x1_1 x1_2 x1_3 n2 r2 x3_0 x3_1 x3_2 x3_3 x)) := by kernel_rfl
theorem o24 (n0 : Bool) (r0 : List (List AV)) (x1_0 : Int) (x1_1 : Int) (x1_2 : Int) (x1_3 : Int) (n2 : Bool) (r2 : List (List AV)) (x3_0 : Int) (x3_1 : Int) (x3_2 : Int) (x3_3 : Int) : (d24 n0 r0 x1_0 x1_1 x1_2 x1_3 n2 r2 x3_0 x3_1 x3_2 x3_3).obs := by
  unfold d24
  repeat' (first | exact trivial | apply lok24_7 | apply And.intro)
theorem k24 : FRight TA 24 s24 := fright (D := fun xs H => d24 (nth xs 0).slNil (nth xs 0).slRows (nth (nth xs 1).cells 0).intOf (nth (nth xs 1).cells 1).intOf (nth (nth xs 1).cells 2).intOf (nth (nth xs 1).cells 3).intOf (nth xs 2).slNil (nth xs 2).slRows (nth (nth xs 3).cells 0).intOf (nth (nth xs 3).cells 1).intOf (nth (nth xs 3).cells 2).intOf (nth (nth xs 3).cells 3).intOf) (sh := fun xs H => sh24 (nth xs 0).slNil (nth xs 0).slRows (nth (nth xs 1).cells 0).intOf (nth (nth xs 1).cells 1).intOf (nth (nth xs 1).cells 2).intOf (nth (nth xs 1).cells 3).intOf (nth xs 2).slNil (nth xs 2).slRows (nth (nth xs 3).cells 0).intOf (nth (nth xs 3).cells 1).intOf (nth (nth xs 3).cells 2).intOf (nth (nth xs 3).cells 3).intOf) cr24 (fun xs H Q => e24 (nth xs 0).slNil (nth xs 0).slRows (nth (nth xs 1).cells 0).intOf (nth (nth xs 1).cells 1).intOf (nth (nth xs 1).cells 2).intOf (nth (nth xs 1).cells 3).intOf (nth xs 2).slNil (nth xs 2).slRows (nth (nth xs 3).cells 0).intOf (nth (nth xs 3).cells 1).intOf (nth (nth xs 3).cells 2).intOf (nth (nth xs 3).cells 3).intOf Q) (fun xs H => o24 (nth xs 0).slNil (nth xs 0).slRows (nth (nth xs 1).cells 0).intOf (nth (nth xs 1).cells 1).intOf (nth (nth xs 1).cells 2).intOf (nth (nth xs 1).cells 3).intOf (nth xs 2).slNil (nth xs 2).slRows (nth (nth xs 3).cells 0).intOf (nth (nth xs 3).cells 1).intOf (nth (nth xs 3).cells 2).intOf (nth (nth xs 3).cells 3).intOf) (by intro xs H x r h; exact (Option.some.inj h).symm)
/-! vedette/geom.On -/
noncomputable def un148 : Nat → Bool := fun _ => false
noncomputable def cs148 : List (Nat × FS) := []
theorem cr148 : CRight TA (cT cs148) := cT_right cT_nil
noncomputable def lt148 : LT := fun rid st => .fail
abbrev X148 : Type := Bool
noncomputable def d148 (x0_0 : Int) (x0_1 : Int) : Dt X148 :=
  .br (decide (0 ≤ x0_0))
  (.br (decide (x0_0 < 64))
    (.br (decide (0 ≤ x0_1))
      (.ret (decide (x0_1 < 64)))
      (.ret false))
    (.ret false))
  (.ret false)
noncomputable def v148 (x0_0 : Int) (x0_1 : Int) : Option X148 := (d148 x0_0 x0_1).val
noncomputable def sh148 (x0_0 : Int) (x0_1 : Int) (x : X148) : AV × List GB := ((.bool x), [])
noncomputable def sd148 (x0_0 : Int) (x0_1 : Int) (x : X148) : Dt (AV × List GB) := .ret ((.bool x), [])
noncomputable def s148 : FS := guardS [.agg [.i .i64, .i .i64]] [] fun xs H => Dt.opt (v148 (nth (nth xs 0).cells 0).intOf (nth (nth xs 0).cells 1).intOf) (sd148 (nth (nth xs 0).cells 0).intOf (nth (nth xs 0).cells 1).intOf)
theorem e148 (x0_0 : Int) (x0_1 : Int) (Q : AV × List GB → Prop) : wpN TA (cT cs148) lt148 un148 80 (evFunc TA 148 [(.agg [(.int .i64 x0_0), (.int .i64 x0_1)])] []) Q = (d148 x0_0 x0_1).wp (fun x => Q (sh148 x0_0 x0_1 x)) := by kernel_rfl
theorem o148 (x0_0 : Int) (x0_1 : Int) : (d148 x0_0 x0_1).obs := by
  unfold d148
  repeat' (first | exact trivial | apply And.intro)
theorem k148 : FRight TA 148 s148 := fright (D := fun xs H => d148 (nth (nth xs 0).cells 0).intOf (nth (nth xs 0).cells 1).intOf) (sh := fun xs H => sh148 (nth (nth xs 0).cells 0).intOf (nth (nth xs 0).cells 1).intOf) cr148 (fun xs H Q => e148 (nth (nth xs 0).cells 0).intOf (nth (nth xs 0).cells 1).intOf Q) (fun xs H => o148 (nth (nth xs 0).cells 0).intOf (nth (nth xs 0).cells 1).intOf) (by intro xs H x r h; exact (Option.some.inj h).symm)
/-! vedette/fields.IsField -/
noncomputable def un151 : Nat → Bool := fun _ => false
noncomputable def cs151 : List (Nat × FS) := []
theorem cr151 : CRight TA (cT cs151) := cT_right cT_nil
noncomputable def lt151 : LT := fun rid st => .fail
abbrev X151 : Type := Bool
noncomputable def d151 (x0_0 : Int) (s0_1 : List UInt8) : Dt X151 :=
  .br (x0_0 == 0)
  (.ret (decide ((s0_1.length : Int) ≤ 12)))
  (.br (s0_1 == [])
    (.ret (decide ((s0_1.length : Int) ≤ 12)))
    (.ret false))
noncomputable def v151 (x0_0 : Int) (s0_1 : List UInt8) : Option X151 := (d151 x0_0 s0_1).val
noncomputable def sh151 (x0_0 : Int) (s0_1 : List UInt8) (x : X151) : AV × List GB := ((.bool x), [])
noncomputable def sd151 (x0_0 : Int) (s0_1 : List UInt8) (x : X151) : Dt (AV × List GB) := .ret ((.bool x), [])
noncomputable def s151 : FS := guardS [.agg [.i .i64, .s]] [] fun xs H => Dt.opt (v151 (nth (nth xs 0).cells 0).intOf (nth (nth xs 0).cells 1).strOf) (sd151 (nth (nth xs 0).cells 0).intOf (nth (nth xs 0).cells 1).strOf)
theorem e151 (x0_0 : Int) (s0_1 : List UInt8) (Q : AV × List GB → Prop) : wpN TA (cT cs151) lt151 un151 80 (evFunc TA 151 [(.agg [(.int .i64 x0_0), (.str s0_1)])] []) Q = (d151 x0_0 s0_1).wp (fun x => Q (sh151 x0_0 s0_1 x)) := by kernel_rfl
theorem o151 (x0_0 : Int) (s0_1 : List UInt8) : (d151 x0_0 s0_1).obs := by
  unfold d151
  repeat' (first | exact trivial | apply And.intro)
theorem k151 : FRight TA 151 s151 := fright (D := fun xs H => d151 (nth (nth xs 0).cells 0).intOf (nth (nth xs 0).cells 1).strOf) (sh := fun xs H => sh151 (nth (nth xs 0).cells 0).intOf (nth (nth xs 0).cells 1).strOf) cr151 (fun xs H Q => e151 (nth (nth xs 0).cells 0).intOf (nth (nth xs 0).cells 1).strOf Q) (fun xs H => o151 (nth (nth xs 0).cells 0).intOf (nth (nth xs 0).cells 1).strOf) (by intro xs H x r h; exact (Option.some.inj h).symm)
/-! vedette/thing.Is$1 -/
noncomputable def un150 : Nat → Bool := fun _ => false
noncomputable def cs150 : List (Nat × FS) := [(151, s151)]
theorem cr150 : CRight TA (cT cs150) := cT_right (cT_cons k151 cT_nil)
noncomputable def lt150 : LT := fun rid st => .fail
abbrev X150 : Type := Bool
noncomputable def d150 (x0_0 : Int) (s0_1 : List UInt8) : Dt X150 :=
  Dt.opt (v151 x0_0 s0_1) fun y1 =>
  .ret (!y1)
noncomputable def v150 (x0_0 : Int) (s0_1 : List UInt8) : Option X150 := (d150 x0_0 s0_1).val
noncomputable def sh150 (x0_0 : Int) (s0_1 : List UInt8) (x : X150) : AV × List GB := ((.bool x), [])
noncomputable def sd150 (x0_0 : Int) (s0_1 : List UInt8) (x : X150) : Dt (AV × List GB) := .ret ((.bool x), [])
noncomputable def s150 : FS := guardS [.agg [.i .i64, .s]] [] fun xs H => Dt.opt (v150 (nth (nth xs 0).cells 0).intOf (nth (nth xs 0).cells 1).strOf) (sd150 (nth (nth xs 0).cells 0).intOf (nth (nth xs 0).cells 1).strOf)
theorem e150 (x0_0 : Int) (s0_1 : List UInt8) (Q : AV × List GB → Prop) : wpN TA (cT cs150) lt150 un150 80 (evFunc TA 150 [(.agg [(.int .i64 x0_0), (.str s0_1)])] []) Q = (d150 x0_0 s0_1).wp (fun x => Q (sh150 x0_0 s0_1 x)) := by kernel_rfl
theorem o150 (x0_0 : Int) (s0_1 : List UInt8) : (d150 x0_0 s0_1).obs := by
  unfold d150
  repeat' (first | exact trivial | apply And.intro)
theorem k150 : FRight TA 150 s150 := fright (D := fun xs H => d150 (nth (nth xs 0).cells 0).intOf (nth (nth xs 0).cells 1).strOf) (sh := fun xs H => sh150 (nth (nth xs 0).cells 0).intOf (nth (nth xs 0).cells 1).strOf) cr150 (fun xs H Q => e150 (nth (nth xs 0).cells 0).intOf (nth (nth xs 0).cells 1).strOf Q) (fun xs H => o150 (nth (nth xs 0).cells 0).intOf (nth (nth xs 0).cells 1).strOf) (by intro xs H x r h; exact (Option.some.inj h).symm)
/-! slices.IndexFunc[[]vedette/api.Field,vedette/api.Field] -/
noncomputable def un193 : Nat → Bool := fun _ => false
noncomputable def cs193 : List (Nat × FS) := [(150, s150)]
theorem cr193 : CRight TA (cT cs193) := cT_right (cT_cons k150 cT_nil)
noncomputable def c193_2 : Code := cB (cB (cR (cL (cR (bodyOf Try.f193)))))
abbrev P193_2 : Type := Int
abbrev Y193_2 : Type := Nat × Int
noncomputable def d193_2 (n0 : Bool) (r0 : List (List AV)) (x7 : Int) (x8 : Int) : Dt (P193_2 ⊕ Y193_2) :=
  .br (decide (x8 < x7))
  (.br (((decide (0 ≤ x8)) && (decide (x8 < (r0.length : Int)))) && true)
    (.br (epOk [(.i .i64), .s] (r0.getD x8.toNat []) 0)
      (Dt.opt (v150 ((nth (r0.getD x8.toNat []) 0).intOf) ((nth (r0.getD x8.toNat []) 1).strOf)) fun y1 =>
        .br y1
        (.ret (.inr (0, x8)))
        (.ret (.inl (wrapF .i64 (x8 + 1))))) (.fail)) (.fail))
  (.ret (.inr (1, default)))
noncomputable def w193_2 (n0 : Bool) (r0 : List (List AV)) (x7 : Int) (x8 : Int) : Option Y193_2 := loopV (fun p : P193_2 => d193_2 n0 r0 x7 p) x8
noncomputable def hd193_2 (n0 : Bool) (r0 : List (List AV)) (x7 : Int) (x8 : Int) : St := (stAt 19 false [(0, (.sl 2 n0 r0 .no)), (1, (.fn 150 [])), (7, (.int .i64 x7)), (8, (.int .i64 x8))] [] [])
noncomputable def ex193_2 (n0 : Bool) (r0 : List (List AV)) (x7 : Int) (x : Y193_2) : Ex × St := bif Nat.beq x.1 0 then (.ret, (stAt 19 false [(4, (.int .i64 x.2))] [] [])) else ((.exit 0), (stAt 19 false [] [] []))
noncomputable def xd193_2 (n0 : Bool) (r0 : List (List AV)) (x7 : Int) (x : Y193_2) : Dt (Ex × St) := .br (Nat.beq x.1 0) (.ret (.ret, (stAt 19 false [(4, (.int .i64 x.2))] [] []))) (.ret ((.exit 0), (stAt 19 false [] [] [])))
noncomputable def lt193 : LT := fun rid st => bif Nat.beq rid 2 then Dt.opt (w193_2 (nth st.tm 0).slNil (nth st.tm 0).slRows (nth st.tm 7).intOf (nth st.tm 8).intOf) (xd193_2 (nth st.tm 0).slNil (nth st.tm 0).slRows (nth st.tm 7).intOf) else .fail
theorem r193_2 (n0 : Bool) (r0 : List (List AV)) (x7 : Int) (p : P193_2) (Q : Ex × St → Prop) : wpN TA (cT cs193) lt193 un193 80 (roundR TA 193 2 c193_2 (hd193_2 n0 r0 x7 p)) Q = (d193_2 n0 r0 x7 p).wp (fun o => Sum.rec (fun p => Q (.normal, hd193_2 n0 r0 x7 p)) (fun x => Q (ex193_2 n0 r0 x7 x)) o) := by kernel_rfl
theorem ob193_2 (n0 : Bool) (r0 : List (List AV)) (x7 : Int) (p : P193_2) : (d193_2 n0 r0 x7 p).obs := by
  unfold d193_2
  repeat' (first | exact trivial | apply And.intro)
theorem lok193_2 (n0 : Bool) (r0 : List (List AV)) (x7 : Int) (x8 : Int) : LoopOk TA 193 2 c193_2 (hd193_2 n0 r0 x7 x8) (Dt.opt (w193_2 n0 r0 x7 x8) (xd193_2 n0 r0 x7)) :=
  loop_okD cr193 (fun p Q => r193_2 n0 r0 x7 p Q) (fun p => ob193_2 n0 r0 x7 p) (fun x => by
    unfold ex193_2
    repeat' (first | (intro h; cases h; done) | (generalize Nat.beq _ _ = b; cases b))) (fun x r h => by
    simp only [xd193_2, Dt.val_br, Dt.val_ret, ex193_2] at h ⊢
    revert h
    repeat' (first | (intro h; exact (Option.some.inj h).symm) | (generalize Nat.beq _ _ = b; cases b))) x8
abbrev X193 : Type := Int
noncomputable def d193 (n0 : Bool) (r0 : List (List AV)) : Dt X193 :=
  .ob (LoopOk TA 193 2 c193_2 (hd193_2 n0 r0 (r0.length : Int) 0) (Dt.opt (w193_2 n0 r0 (r0.length : Int) 0) (xd193_2 n0 r0 (r0.length : Int))))
  (Dt.opt (w193_2 n0 r0 (r0.length : Int) 0) fun y2 =>
    .br (Nat.beq y2.1 0)
    (.ret y2.2)
    (.ret (-1)))
noncomputable def v193 (n0 : Bool) (r0 : List (List AV)) : Option X193 := (d193 n0 r0).val
noncomputable def sh193 (n0 : Bool) (r0 : List (List AV)) (x : X193) : AV × List GB := ((.int .i64 x), [])
noncomputable def sd193 (n0 : Bool) (r0 : List (List AV)) (x : X193) : Dt (AV × List GB) := .ret ((.int .i64 x), [])
noncomputable def s193 : FS := guardS [.c (.sl 2 .no), .c (.ex (.fn 150 []))] [] fun xs H => Dt.opt (v193 (nth xs 0).slNil (nth xs 0).slRows) (sd193 (nth xs 0).slNil (nth xs 0).slRows)
theorem e193 (n0 : Bool) (r0 : List (List AV)) (Q : AV × List GB → Prop) : wpN TA (cT cs193) lt193 un193 80 (evFunc TA 193 [(.sl 2 n0 r0 .no), (.fn 150 [])] []) Q = (d193 n0 r0).wp (fun x => Q (sh193 n0 r0 x)) := by kernel_rfl
theorem o193 (n0 : Bool) (r0 : List (List AV)) : (d193 n0 r0).obs := by
  unfold d193
  repeat' (first | exact trivial | apply lok193_2 | apply And.intro)
theorem k193 : FRight TA 193 s193 := fright (D := fun xs H => d193 (nth xs 0).slNil (nth xs 0).slRows) (sh := fun xs H => sh193 (nth xs 0).slNil (nth xs 0).slRows) cr193 (fun xs H Q => e193 (nth xs 0).slNil (nth xs 0).slRows Q) (fun xs H => o193 (nth xs 0).slNil (nth xs 0).slRows) (by intro xs H x r h; exact (Option.some.inj h).symm)
/-! slices.ContainsFunc[[]vedette/api.Field,vedette/api.Field] -/
noncomputable def un149 : Nat → Bool := fun _ => false
noncomputable def cs149 : List (Nat × FS) := [(193, s193)]
theorem cr149 : CRight TA (cT cs149) := cT_right (cT_cons k193 cT_nil)
noncomputable def lt149 : LT := fun rid st => .fail
abbrev X149 : Type := Bool
noncomputable def d149 (n0 : Bool) (r0 : List (List AV)) : Dt X149 :=
  Dt.opt (v193 n0 r0) fun y1 =>
  .ret (decide (0 ≤ y1))
noncomputable def v149 (n0 : Bool) (r0 : List (List AV)) : Option X149 := (d149 n0 r0).val
noncomputable def sh149 (n0 : Bool) (r0 : List (List AV)) (x : X149) : AV × List GB := ((.bool x), [])
noncomputable def sd149 (n0 : Bool) (r0 : List (List AV)) (x : X149) : Dt (AV × List GB) := .ret ((.bool x), [])
noncomputable def s149 : FS := guardS [.c (.sl 2 .no), .c (.ex (.fn 150 []))] [] fun xs H => Dt.opt (v149 (nth xs 0).slNil (nth xs 0).slRows) (sd149 (nth xs 0).slNil (nth xs 0).slRows)
theorem e149 (n0 : Bool) (r0 : List (List AV)) (Q : AV × List GB → Prop) : wpN TA (cT cs149) lt149 un149 80 (evFunc TA 149 [(.sl 2 n0 r0 .no), (.fn 150 [])] []) Q = (d149 n0 r0).wp (fun x => Q (sh149 n0 r0 x)) := by kernel_rfl
theorem o149 (n0 : Bool) (r0 : List (List AV)) : (d149 n0 r0).obs := by
  unfold d149
  repeat' (first | exact trivial | apply And.intro)
theorem k149 : FRight TA 149 s149 := fright (D := fun xs H => d149 (nth xs 0).slNil (nth xs 0).slRows) (sh := fun xs H => sh149 (nth xs 0).slNil (nth xs 0).slRows) cr149 (fun xs H Q => e149 (nth xs 0).slNil (nth xs 0).slRows Q) (fun xs H => o149 (nth xs 0).slNil (nth xs 0).slRows) (by intro xs H x r h; exact (Option.some.inj h).symm)
/-! vedette/thing.Is -/
noncomputable def un86 : Nat → Bool := fun _ => false
noncomputable def cs86 : List (Nat × FS) := [(148, s148), (149, s149)]
theorem cr86 : CRight TA (cT cs86) := cT_right (cT_cons k148 (cT_cons k149 cT_nil))
noncomputable def lt86 : LT := fun rid st => .fail
abbrev X86 : Type := Bool
noncomputable def d86 (x0_0 : Int) (x0_1 : Int) (x0_2 : Int) (x0_3 : Int) (s0_4 : List UInt8) (x0_5 : Int) (s0_6 : List UInt8) (x0_7 : Int) (s0_8 : List UInt8) (x0_9 : Int) (s0_10 : List UInt8) : Dt X86 :=
  .br (decide (0 ≤ x0_0))
  (.br (decide (x0_0 ≤ 1000000))
    (Dt.opt (v148 x0_1 x0_2) fun y1 =>
      .br y1
      (Dt.opt (v149 false [[(.int .i64 x0_3), (.str s0_4)], [(.int .i64 x0_5), (.str s0_6)], [(.int .i64 x0_7), (.str s0_8)], [(.int .i64 x0_9), (.str s0_10)]]) fun y2 =>
        .ret (!y2))
      (.ret false))
    (.ret false))
  (.ret false)
noncomputable def v86 (x0_0 : Int) (x0_1 : Int) (x0_2 : Int) (x0_3 : Int) (s0_4 : List UInt8) (x0_5 : Int) (s0_6 : List UInt8) (x0_7 : Int) (s0_8 : List UInt8) (x0_9 : Int) (s0_10 : List UInt8) : Option X86 := (d86 x0_0 x0_1 x0_2 x0_3 s0_4 x0_5 s0_6 x0_7 s0_8 x0_9 s0_10).val
noncomputable def sh86 (x0_0 : Int) (x0_1 : Int) (x0_2 : Int) (x0_3 : Int) (s0_4 : List UInt8) (x0_5 : Int) (s0_6 : List UInt8) (x0_7 : Int) (s0_8 : List UInt8) (x0_9 : Int) (s0_10 : List UInt8) (x : X86) : AV × List GB := ((.bool x), [])
noncomputable def sd86 (x0_0 : Int) (x0_1 : Int) (x0_2 : Int) (x0_3 : Int) (s0_4 : List UInt8) (x0_5 : Int) (s0_6 : List UInt8) (x0_7 : Int) (s0_8 : List UInt8) (x0_9 : Int) (s0_10 : List UInt8) (x : X86) : Dt (AV × List GB) := .ret ((.bool x), [])
noncomputable def s86 : FS := guardS [.agg [.i .i64, .i .i64, .i .i64, .i .i64, .s, .i .i64, .s, .i .i64, .s, .i .i64, .s]] [] fun xs H => Dt.opt (v86 (nth (nth xs 0).cells 0).intOf (nth (nth xs 0).cells 1).intOf (nth (nth xs 0).cells 2).intOf (nth (nth xs 0).cells 3).intOf (nth (nth xs 0).cells 4).strOf (nth (nth xs 0).cells 5).intOf (nth (nth xs 0).cells 6).strOf (nth (nth xs 0).cells 7).intOf (nth (nth xs 0).cells 8).strOf (nth (nth xs 0).cells 9).intOf (nth (nth xs 0).cells 10).strOf) (sd86 (nth (nth xs 0).cells 0).intOf (nth (nth xs 0).cells 1).intOf (nth (nth xs 0).cells 2).intOf (nth (nth xs 0).cells 3).intOf (nth (nth xs 0).cells 4).strOf (nth (nth xs 0).cells 5).intOf (nth (nth xs 0).cells 6).strOf (nth (nth xs 0).cells 7).intOf (nth (nth xs 0).cells 8).strOf (nth (nth xs 0).cells 9).intOf (nth (nth xs 0).cells 10).strOf)
theorem e86 (x0_0 : Int) (x0_1 : Int) (x0_2 : Int) (x0_3 : Int) (s0_4 : List UInt8) (x0_5 : Int) (s0_6 : List UInt8) (x0_7 : Int) (s0_8 : List UInt8) (x0_9 : Int) (s0_10 : List UInt8) (Q : AV × List GB → Prop) : wpN TA (cT cs86) lt86 un86 80 (evFunc TA 86 [(.agg [(.int .i64 x0_0), (.int .i64 x0_1), (.int .i64 x0_2), (.int .i64 x0_3), (.str s0_4), (.int .i64 x0_5), (.str s0_6), (.int .i64 x0_7), (.str s0_8), (.int .i64 x0_9), (.str s0_10)])] []) Q = (d86 x0_0 x0_1 x0_2 x0_3 s0_4 x0_5 s0_6 x0_7 s0_8 x0_9 s0_10).wp (fun x => Q (sh86 x0_0 x0_1 x0_2 x0_3 s0_4 x0_5 s0_6 x0_7 s0_8 x0_9 s0_10 x)) := by kernel_rfl
theorem o86 (x0_0 : Int) (x0_1 : Int) (x0_2 : Int) (x0_3 : Int) (s0_4 : List UInt8) (x0_5 : Int) (s0_6 : List UInt8) (x0_7 : Int) (s0_8 : List UInt8) (x0_9 : Int) (s0_10 : List UInt8) : (d86 x0_0 x0_1 x0_2 x0_3 s0_4 x0_5 s0_6 x0_7 s0_8 x0_9 s0_10).obs := by
  unfold d86
  repeat' (first | exact trivial | apply And.intro)
theorem k86 : FRight TA 86 s86 := fright (D := fun xs H => d86 (nth (nth xs 0).cells 0).intOf (nth (nth xs 0).cells 1).intOf (nth (nth xs 0).cells 2).intOf (nth (nth xs 0).cells 3).intOf (nth (nth xs 0).cells 4).strOf (nth (nth xs 0).cells 5).intOf (nth (nth xs 0).cells 6).strOf (nth (nth xs 0).cells 7).intOf (nth (nth xs 0).cells 8).strOf (nth (nth xs 0).cells 9).intOf (nth (nth xs 0).cells 10).strOf) (sh := fun xs H => sh86 (nth (nth xs 0).cells 0).intOf (nth (nth xs 0).cells 1).intOf (nth (nth xs 0).cells 2).intOf (nth (nth xs 0).cells 3).intOf (nth (nth xs 0).cells 4).strOf (nth (nth xs 0).cells 5).intOf (nth (nth xs 0).cells 6).strOf (nth (nth xs 0).cells 7).intOf (nth (nth xs 0).cells 8).strOf (nth (nth xs 0).cells 9).intOf (nth (nth xs 0).cells 10).strOf) cr86 (fun xs H Q => e86 (nth (nth xs 0).cells 0).intOf (nth (nth xs 0).cells 1).intOf (nth (nth xs 0).cells 2).intOf (nth (nth xs 0).cells 3).intOf (nth (nth xs 0).cells 4).strOf (nth (nth xs 0).cells 5).intOf (nth (nth xs 0).cells 6).strOf (nth (nth xs 0).cells 7).intOf (nth (nth xs 0).cells 8).strOf (nth (nth xs 0).cells 9).intOf (nth (nth xs 0).cells 10).strOf Q) (fun xs H => o86 (nth (nth xs 0).cells 0).intOf (nth (nth xs 0).cells 1).intOf (nth (nth xs 0).cells 2).intOf (nth (nth xs 0).cells 3).intOf (nth (nth xs 0).cells 4).strOf (nth (nth xs 0).cells 5).intOf (nth (nth xs 0).cells 6).strOf (nth (nth xs 0).cells 7).intOf (nth (nth xs 0).cells 8).strOf (nth (nth xs 0).cells 9).intOf (nth (nth xs 0).cells 10).strOf) (by intro xs H x r h; exact (Option.some.inj h).symm)
/-! vedette/fields.has -/
noncomputable def un152 : Nat → Bool := fun _ => false
noncomputable def cs152 : List (Nat × FS) := []
theorem cr152 : CRight TA (cT cs152) := cT_right cT_nil
noncomputable def lt152 : LT := fun rid st => .fail
abbrev X152 : Type := Bool
noncomputable def d152 (x0 : Int) (x1 : Int) : Dt X152 :=
  .br (decide (0 ≤ (wrapF .i64 (x1 + 1))))
  (.ret ((wrapF .u8 (((BitVec.ofInt 8 (x0.fdiv ((2 ^ (min (wrapF .i64 (x1 + 1)).toNat 8) : Nat) : Int)) &&& BitVec.ofInt 8 1).toNat : Nat) : Int)) == 1)) (.fail)
noncomputable def v152 (x0 : Int) (x1 : Int) : Option X152 := (d152 x0 x1).val
noncomputable def sh152 (x0 : Int) (x1 : Int) (x : X152) : AV × List GB := ((.bool x), [])
noncomputable def sd152 (x0 : Int) (x1 : Int) (x : X152) : Dt (AV × List GB) := .ret ((.bool x), [])
noncomputable def s152 : FS := guardS [.c (.i .u8), .c (.i .i64)] [] fun xs H => Dt.opt (v152 (nth xs 0).intOf (nth xs 1).intOf) (sd152 (nth xs 0).intOf (nth xs 1).intOf)
theorem e152 (x0 : Int) (x1 : Int) (Q : AV × List GB → Prop) : wpN TA (cT cs152) lt152 un152 80 (evFunc TA 152 [(.int .u8 x0), (.int .i64 x1)] []) Q = (d152 x0 x1).wp (fun x => Q (sh152 x0 x1 x)) := by kernel_rfl
theorem o152 (x0 : Int) (x1 : Int) : (d152 x0 x1).obs := by
  unfold d152
  repeat' (first | exact trivial | apply And.intro)
theorem k152 : FRight TA 152 s152 := fright (D := fun xs H => d152 (nth xs 0).intOf (nth xs 1).intOf) (sh := fun xs H => sh152 (nth xs 0).intOf (nth xs 1).intOf) cr152 (fun xs H Q => e152 (nth xs 0).intOf (nth xs 1).intOf Q) (fun xs H => o152 (nth xs 0).intOf (nth xs 1).intOf) (by intro xs H x r h; exact (Option.some.inj h).symm)
/-! vedette/fields.IsDelta -/
noncomputable def un87 : Nat → Bool := fun r => Nat.beq r 6
noncomputable def cs87 : List (Nat × FS) := [(148, s148), (151, s151), (152, s152)]
theorem cr87 : CRight TA (cT cs87) := cT_right (cT_cons k148 (cT_cons k151 (cT_cons k152 cT_nil)))
noncomputable def lt87 : LT := fun rid st => .fail
abbrev X87 : Type := Bool
noncomputable def d87 (x0_0 : Int) (x0_1 : Int) (x0_2 : Int) (x0_3 : Int) (x0_4 : Int) (s0_5 : List UInt8) (x0_6 : Int) (s0_7 : List UInt8) (x0_8 : Int) (s0_9 : List UInt8) (x0_10 : Int) (s0_11 : List UInt8) : Dt X87 :=
  .br (decide (x0_0 < 0))
  (.ret false)
  (.br (decide (1000000 < x0_0))
    (.ret false)
    (.br (x0_1 == 0)
      (.ret false)
      (.br (decide (31 < x0_1))
        (.ret false)
        (.br ((wrapF .u8 (((BitVec.ofInt 8 x0_1 &&& BitVec.ofInt 8 1).toNat : Nat) : Int)) == 0)
          (.br (!((x0_2 == 0) && ((x0_3 == 0) && true)))
            (.ret false)
            (Dt.opt (v148 x0_2 x0_3) fun y1 =>
              .br (!y1)
              (.ret false)
              (Dt.opt (v151 x0_4 s0_5) fun y2 =>
                .br (!y2)
                (.ret false)
                (Dt.opt (v152 x0_1 0) fun y3 =>
                  .br (!y3)
                  (.br (!((x0_4 == 0) && ((s0_5 == []) && true)))
                    (.ret false)
                    (Dt.opt (v151 x0_6 s0_7) fun y4 =>
                      .br (!y4)
                      (.ret false)
                      (Dt.opt (v152 x0_1 1) fun y5 =>
                        .br (!y5)
                        (.br (!((x0_6 == 0) && ((s0_7 == []) && true)))
                          (.ret false)
                          (Dt.opt (v151 x0_8 s0_9) fun y6 =>
                            .br (!y6)
                            (.ret false)
                            (Dt.opt (v152 x0_1 2) fun y7 =>
                              .br (!y7)
                              (.br (!((x0_8 == 0) && ((s0_9 == []) && true)))
                                (.ret false)
                                (Dt.opt (v151 x0_10 s0_11) fun y8 =>
                                  .br (!y8)
                                  (.ret false)
                                  (Dt.opt (v152 x0_1 3) fun y9 =>
                                    .br (!y9)
                                    (.br (!((x0_10 == 0) && ((s0_11 == []) && true)))
                                      (.ret false)
                                      (.ret true))
                                    (.ret true))))
                              (Dt.opt (v151 x0_10 s0_11) fun y10 =>
                                .br (!y10)
                                (.ret false)
                                (Dt.opt (v152 x0_1 3) fun y11 =>
                                  .br (!y11)
                                  (.br (!((x0_10 == 0) && ((s0_11 == []) && true)))
                                    (.ret false)
                                    (.ret true))
                                  (.ret true))))))
                        (Dt.opt (v151 x0_8 s0_9) fun y12 =>
                          .br (!y12)
                          (.ret false)
                          (Dt.opt (v152 x0_1 2) fun y13 =>
                            .br (!y13)
                            (.br (!((x0_8 == 0) && ((s0_9 == []) && true)))
                              (.ret false)
                              (Dt.opt (v151 x0_10 s0_11) fun y14 =>
                                .br (!y14)
                                (.ret false)
                                (Dt.opt (v152 x0_1 3) fun y15 =>
                                  .br (!y15)
                                  (.br (!((x0_10 == 0) && ((s0_11 == []) && true)))
                                    (.ret false)
                                    (.ret true))
                                  (.ret true))))
                            (Dt.opt (v151 x0_10 s0_11) fun y16 =>
                              .br (!y16)
                              (.ret false)
                              (Dt.opt (v152 x0_1 3) fun y17 =>
                                .br (!y17)
                                (.br (!((x0_10 == 0) && ((s0_11 == []) && true)))
                                  (.ret false)
                                  (.ret true))
                                (.ret true))))))))
                  (Dt.opt (v151 x0_6 s0_7) fun y18 =>
                    .br (!y18)
                    (.ret false)
                    (Dt.opt (v152 x0_1 1) fun y19 =>
                      .br (!y19)
                      (.br (!((x0_6 == 0) && ((s0_7 == []) && true)))
                        (.ret false)
                        (Dt.opt (v151 x0_8 s0_9) fun y20 =>
                          .br (!y20)
                          (.ret false)
                          (Dt.opt (v152 x0_1 2) fun y21 =>
                            .br (!y21)
                            (.br (!((x0_8 == 0) && ((s0_9 == []) && true)))
                              (.ret false)
                              (Dt.opt (v151 x0_10 s0_11) fun y22 =>
                                .br (!y22)
                                (.ret false)
                                (Dt.opt (v152 x0_1 3) fun y23 =>
                                  .br (!y23)
                                  (.br (!((x0_10 == 0) && ((s0_11 == []) && true)))
                                    (.ret false)
                                    (.ret true))
                                  (.ret true))))
                            (Dt.opt (v151 x0_10 s0_11) fun y24 =>
                              .br (!y24)
                              (.ret false)
                              (Dt.opt (v152 x0_1 3) fun y25 =>
                                .br (!y25)
                                (.br (!((x0_10 == 0) && ((s0_11 == []) && true)))
                                  (.ret false)
                                  (.ret true))
                                (.ret true))))))
                      (Dt.opt (v151 x0_8 s0_9) fun y26 =>
                        .br (!y26)
                        (.ret false)
                        (Dt.opt (v152 x0_1 2) fun y27 =>
                          .br (!y27)
                          (.br (!((x0_8 == 0) && ((s0_9 == []) && true)))
                            (.ret false)
                            (Dt.opt (v151 x0_10 s0_11) fun y28 =>
                              .br (!y28)
                              (.ret false)
                              (Dt.opt (v152 x0_1 3) fun y29 =>
                                .br (!y29)
                                (.br (!((x0_10 == 0) && ((s0_11 == []) && true)))
                                  (.ret false)
                                  (.ret true))
                                (.ret true))))
                          (Dt.opt (v151 x0_10 s0_11) fun y30 =>
                            .br (!y30)
                            (.ret false)
                            (Dt.opt (v152 x0_1 3) fun y31 =>
                              .br (!y31)
                              (.br (!((x0_10 == 0) && ((s0_11 == []) && true)))
                                (.ret false)
                                (.ret true))
                              (.ret true)))))))))))
          (Dt.opt (v148 x0_2 x0_3) fun y32 =>
            .br (!y32)
            (.ret false)
            (Dt.opt (v151 x0_4 s0_5) fun y33 =>
              .br (!y33)
              (.ret false)
              (Dt.opt (v152 x0_1 0) fun y34 =>
                .br (!y34)
                (.br (!((x0_4 == 0) && ((s0_5 == []) && true)))
                  (.ret false)
                  (Dt.opt (v151 x0_6 s0_7) fun y35 =>
                    .br (!y35)
                    (.ret false)
                    (Dt.opt (v152 x0_1 1) fun y36 =>
                      .br (!y36)
                      (.br (!((x0_6 == 0) && ((s0_7 == []) && true)))
                        (.ret false)
                        (Dt.opt (v151 x0_8 s0_9) fun y37 =>
                          .br (!y37)
                          (.ret false)
                          (Dt.opt (v152 x0_1 2) fun y38 =>
                            .br (!y38)
                            (.br (!((x0_8 == 0) && ((s0_9 == []) && true)))
                              (.ret false)
                              (Dt.opt (v151 x0_10 s0_11) fun y39 =>
                                .br (!y39)
                                (.ret false)
                                (Dt.opt (v152 x0_1 3) fun y40 =>
                                  .br (!y40)
                                  (.br (!((x0_10 == 0) && ((s0_11 == []) && true)))
                                    (.ret false)
                                    (.ret true))
                                  (.ret true))))
                            (Dt.opt (v151 x0_10 s0_11) fun y41 =>
                              .br (!y41)
                              (.ret false)
                              (Dt.opt (v152 x0_1 3) fun y42 =>
                                .br (!y42)
                                (.br (!((x0_10 == 0) && ((s0_11 == []) && true)))
                                  (.ret false)
                                  (.ret true))
                                (.ret true))))))
                      (Dt.opt (v151 x0_8 s0_9) fun y43 =>
                        .br (!y43)
                        (.ret false)
                        (Dt.opt (v152 x0_1 2) fun y44 =>
                          .br (!y44)
                          (.br (!((x0_8 == 0) && ((s0_9 == []) && true)))
                            (.ret false)
                            (Dt.opt (v151 x0_10 s0_11) fun y45 =>
                              .br (!y45)
                              (.ret false)
                              (Dt.opt (v152 x0_1 3) fun y46 =>
                                .br (!y46)
                                (.br (!((x0_10 == 0) && ((s0_11 == []) && true)))
                                  (.ret false)
                                  (.ret true))
                                (.ret true))))
                          (Dt.opt (v151 x0_10 s0_11) fun y47 =>
                            .br (!y47)
                            (.ret false)
                            (Dt.opt (v152 x0_1 3) fun y48 =>
                              .br (!y48)
                              (.br (!((x0_10 == 0) && ((s0_11 == []) && true)))
                                (.ret false)
                                (.ret true))
                              (.ret true))))))))
                (Dt.opt (v151 x0_6 s0_7) fun y49 =>
                  .br (!y49)
                  (.ret false)
                  (Dt.opt (v152 x0_1 1) fun y50 =>
                    .br (!y50)
                    (.br (!((x0_6 == 0) && ((s0_7 == []) && true)))
                      (.ret false)
                      (Dt.opt (v151 x0_8 s0_9) fun y51 =>
                        .br (!y51)
                        (.ret false)
                        (Dt.opt (v152 x0_1 2) fun y52 =>
                          .br (!y52)
                          (.br (!((x0_8 == 0) && ((s0_9 == []) && true)))
                            (.ret false)
                            (Dt.opt (v151 x0_10 s0_11) fun y53 =>
                              .br (!y53)
                              (.ret false)
                              (Dt.opt (v152 x0_1 3) fun y54 =>
                                .br (!y54)
                                (.br (!((x0_10 == 0) && ((s0_11 == []) && true)))
                                  (.ret false)
                                  (.ret true))
                                (.ret true))))
                          (Dt.opt (v151 x0_10 s0_11) fun y55 =>
                            .br (!y55)
                            (.ret false)
                            (Dt.opt (v152 x0_1 3) fun y56 =>
                              .br (!y56)
                              (.br (!((x0_10 == 0) && ((s0_11 == []) && true)))
                                (.ret false)
                                (.ret true))
                              (.ret true))))))
                    (Dt.opt (v151 x0_8 s0_9) fun y57 =>
                      .br (!y57)
                      (.ret false)
                      (Dt.opt (v152 x0_1 2) fun y58 =>
                        .br (!y58)
                        (.br (!((x0_8 == 0) && ((s0_9 == []) && true)))
                          (.ret false)
                          (Dt.opt (v151 x0_10 s0_11) fun y59 =>
                            .br (!y59)
                            (.ret false)
                            (Dt.opt (v152 x0_1 3) fun y60 =>
                              .br (!y60)
                              (.br (!((x0_10 == 0) && ((s0_11 == []) && true)))
                                (.ret false)
                                (.ret true))
                              (.ret true))))
                        (Dt.opt (v151 x0_10 s0_11) fun y61 =>
                          .br (!y61)
                          (.ret false)
                          (Dt.opt (v152 x0_1 3) fun y62 =>
                            .br (!y62)
                            (.br (!((x0_10 == 0) && ((s0_11 == []) && true)))
                              (.ret false)
                              (.ret true))
                            (.ret true))))))))))))))
noncomputable def v87 (x0_0 : Int) (x0_1 : Int) (x0_2 : Int) (x0_3 : Int) (x0_4 : Int) (s0_5 : List UInt8) (x0_6 : Int) (s0_7 : List UInt8) (x0_8 : Int) (s0_9 : List UInt8) (x0_10 : Int) (s0_11 : List UInt8) : Option X87 := (d87 x0_0 x0_1 x0_2 x0_3 x0_4 s0_5 x0_6 s0_7 x0_8 s0_9 x0_10 s0_11).val
noncomputable def sh87 (x0_0 : Int) (x0_1 : Int) (x0_2 : Int) (x0_3 : Int) (x0_4 : Int) (s0_5 : List UInt8) (x0_6 : Int) (s0_7 : List UInt8) (x0_8 : Int) (s0_9 : List UInt8) (x0_10 : Int) (s0_11 : List UInt8) (x : X87) : AV × List GB := ((.bool x), [])
noncomputable def sd87 (x0_0 : Int) (x0_1 : Int) (x0_2 : Int) (x0_3 : Int) (x0_4 : Int) (s0_5 : List UInt8) (x0_6 : Int) (s0_7 : List UInt8) (x0_8 : Int) (s0_9 : List UInt8) (x0_10 : Int) (s0_11 : List UInt8) (x : X87) : Dt (AV × List GB) := .ret ((.bool x), [])
noncomputable def s87 : FS := guardS [.agg [.i .i64, .i .u8, .i .i64, .i .i64, .i .i64, .s, .i .i64, .s, .i .i64, .s, .i .i64, .s]] [] fun xs H => Dt.opt (v87 (nth (nth xs 0).cells 0).intOf (nth (nth xs 0).cells 1).intOf (nth (nth xs 0).cells 2).intOf (nth (nth xs 0).cells 3).intOf (nth (nth xs 0).cells 4).intOf (nth (nth xs 0).cells 5).strOf (nth (nth xs 0).cells 6).intOf (nth (nth xs 0).cells 7).strOf (nth (nth xs 0).cells 8).intOf (nth (nth xs 0).cells 9).strOf (nth (nth xs 0).cells 10).intOf (nth (nth xs 0).cells 11).strOf) (sd87 (nth (nth xs 0).cells 0).intOf (nth (nth xs 0).cells 1).intOf (nth (nth xs 0).cells 2).intOf (nth (nth xs 0).cells 3).intOf (nth (nth xs 0).cells 4).intOf (nth (nth xs 0).cells 5).strOf (nth (nth xs 0).cells 6).intOf (nth (nth xs 0).cells 7).strOf (nth (nth xs 0).cells 8).intOf (nth (nth xs 0).cells 9).strOf (nth (nth xs 0).cells 10).intOf (nth (nth xs 0).cells 11).strOf)
theorem e87 (x0_0 : Int) (x0_1 : Int) (x0_2 : Int) (x0_3 : Int) (x0_4 : Int) (s0_5 : List UInt8) (x0_6 : Int) (s0_7 : List UInt8) (x0_8 : Int) (s0_9 : List UInt8) (x0_10 : Int) (s0_11 : List UInt8) (Q : AV × List GB → Prop) : wpN TA (cT cs87) lt87 un87 80 (evFunc TA 87 [(.agg [(.int .i64 x0_0), (.int .u8 x0_1), (.int .i64 x0_2), (.int .i64 x0_3), (.int .i64 x0_4), (.str s0_5), (.int .i64 x0_6), (.str s0_7), (.int .i64 x0_8), (.str s0_9), (.int .i64 x0_10), (.str s0_11)])] []) Q = (d87 x0_0 x0_1 x0_2 x0_3 x0_4 s0_5 x0_6 s0_7 x0_8 s0_9 x0_10 s0_11).wp (fun x => Q (sh87 x0_0 x0_1 x0_2 x0_3 x0_4 s0_5 x0_6 s0_7 x0_8 s0_9 x0_10 s0_11 x)) := by kernel_rfl
theorem o87 (x0_0 : Int) (x0_1 : Int) (x0_2 : Int) (x0_3 : Int) (x0_4 : Int) (s0_5 : List UInt8) (x0_6 : Int) (s0_7 : List UInt8) (x0_8 : Int) (s0_9 : List UInt8) (x0_10 : Int) (s0_11 : List UInt8) : (d87 x0_0 x0_1 x0_2 x0_3 x0_4 s0_5 x0_6 s0_7 x0_8 s0_9 x0_10 s0_11).obs := by
  unfold d87
  repeat' (first | exact trivial | apply And.intro)
theorem k87 : FRight TA 87 s87 := fright (D := fun xs H => d87 (nth (nth xs 0).cells 0).intOf (nth (nth xs 0).cells 1).intOf (nth (nth xs 0).cells 2).intOf (nth (nth xs 0).cells 3).intOf (nth (nth xs 0).cells 4).intOf (nth (nth xs 0).cells 5).strOf (nth (nth xs 0).cells 6).intOf (nth (nth xs 0).cells 7).strOf (nth (nth xs 0).cells 8).intOf (nth (nth xs 0).cells 9).strOf (nth (nth xs 0).cells 10).intOf (nth (nth xs 0).cells 11).strOf) (sh := fun xs H => sh87 (nth (nth xs 0).cells 0).intOf (nth (nth xs 0).cells 1).intOf (nth (nth xs 0).cells 2).intOf (nth (nth xs 0).cells 3).intOf (nth (nth xs 0).cells 4).intOf (nth (nth xs 0).cells 5).strOf (nth (nth xs 0).cells 6).intOf (nth (nth xs 0).cells 7).strOf (nth (nth xs 0).cells 8).intOf (nth (nth xs 0).cells 9).strOf (nth (nth xs 0).cells 10).intOf (nth (nth xs 0).cells 11).strOf) cr87 (fun xs H Q => e87 (nth (nth xs 0).cells 0).intOf (nth (nth xs 0).cells 1).intOf (nth (nth xs 0).cells 2).intOf (nth (nth xs 0).cells 3).intOf (nth (nth xs 0).cells 4).intOf (nth (nth xs 0).cells 5).strOf (nth (nth xs 0).cells 6).intOf (nth (nth xs 0).cells 7).strOf (nth (nth xs 0).cells 8).intOf (nth (nth xs 0).cells 9).strOf (nth (nth xs 0).cells 10).intOf (nth (nth xs 0).cells 11).strOf Q) (fun xs H => o87 (nth (nth xs 0).cells 0).intOf (nth (nth xs 0).cells 1).intOf (nth (nth xs 0).cells 2).intOf (nth (nth xs 0).cells 3).intOf (nth (nth xs 0).cells 4).intOf (nth (nth xs 0).cells 5).strOf (nth (nth xs 0).cells 6).intOf (nth (nth xs 0).cells 7).strOf (nth (nth xs 0).cells 8).intOf (nth (nth xs 0).cells 9).strOf (nth (nth xs 0).cells 10).intOf (nth (nth xs 0).cells 11).strOf) (by intro xs H x r h; exact (Option.some.inj h).symm)
/-! vedette/event.Is -/
noncomputable def un25 : Nat → Bool := fun _ => false
noncomputable def cs25 : List (Nat × FS) := [(86, s86), (87, s87)]
theorem cr25 : CRight TA (cT cs25) := cT_right (cT_cons k86 (cT_cons k87 cT_nil))
noncomputable def lt25 : LT := fun rid st => .fail
abbrev X25 : Type := Bool
noncomputable def d25 (x0_0 : Int) (x0_1 : Int) (x0_2 : Int) (x0_3 : Int) (x0_4 : Int) (x0_5 : Int) (s0_6 : List UInt8) (x0_7 : Int) (s0_8 : List UInt8) (x0_9 : Int) (s0_10 : List UInt8) (x0_11 : Int) (s0_12 : List UInt8) (x0_13 : Int) (x0_14 : Int) (x0_15 : Int) (x0_16 : Int) (x0_17 : Int) (s0_18 : List UInt8) (x0_19 : Int) (s0_20 : List UInt8) (x0_21 : Int) (s0_22 : List UInt8) (x0_23 : Int) (s0_24 : List UInt8) : Dt X25 :=
  .br (x0_0 == 1)
  (Dt.opt (v86 x0_2 x0_3 x0_4 x0_5 s0_6 x0_7 s0_8 x0_9 s0_10 x0_11 s0_12) fun y1 =>
    .br y1
    (.br (x0_1 == x0_2)
      (.ret ((x0_13 == 0) && ((x0_14 == 0) && ((x0_15 == 0) && ((x0_16 == 0) && ((x0_17 == 0) && ((s0_18 == []) && ((x0_19 == 0) && ((s0_20 == []) && ((x0_21 == 0) && ((s0_22 == []) && ((x0_23 == 0) && ((s0_24 == []) && true)))))))))))))
      (.ret false))
    (.ret false))
  (.br (x0_0 == 2)
    (Dt.opt (v87 x0_13 x0_14 x0_15 x0_16 x0_17 s0_18 x0_19 s0_20 x0_21 s0_22 x0_23 s0_24) fun y2 =>
      .br y2
      (.br (x0_1 == x0_13)
        (.ret ((x0_2 == 0) && ((x0_3 == 0) && ((x0_4 == 0) && ((x0_5 == 0) && ((s0_6 == []) && ((x0_7 == 0) && ((s0_8 == []) && ((x0_9 == 0) && ((s0_10 == []) && ((x0_11 == 0) && ((s0_12 == []) && true))))))))))))
        (.ret false))
      (.ret false))
    (.br (x0_0 == 3)
      (.br (decide (0 ≤ x0_1))
        (.br (decide (x0_1 ≤ 1000000))
          (.br ((x0_2 == 0) && ((x0_3 == 0) && ((x0_4 == 0) && ((x0_5 == 0) && ((s0_6 == []) && ((x0_7 == 0) && ((s0_8 == []) && ((x0_9 == 0) && ((s0_10 == []) && ((x0_11 == 0) && ((s0_12 == []) && true)))))))))))
            (.ret ((x0_13 == 0) && ((x0_14 == 0) && ((x0_15 == 0) && ((x0_16 == 0) && ((x0_17 == 0) && ((s0_18 == []) && ((x0_19 == 0) && ((s0_20 == []) && ((x0_21 == 0) && ((s0_22 == []) && ((x0_23 == 0) && ((s0_24 == []) && true)))))))))))))
            (.ret false))
          (.ret false))
        (.ret false))
      (.ret false)))
noncomputable def v25 (x0_0 : Int) (x0_1 : Int) (x0_2 : Int) (x0_3 : Int) (x0_4 : Int) (x0_5 : Int) (s0_6 : List UInt8) (x0_7 : Int) (s0_8 : List UInt8) (x0_9 : Int) (s0_10 : List UInt8) (x0_11 : Int) (s0_12 : List UInt8) (x0_13 : Int) (x0_14 : Int) (x0_15 : Int) (x0_16 : Int) (x0_17 : Int) (s0_18 : List UInt8) (x0_19 : Int) (s0_20 : List UInt8) (x0_21 : Int) (s0_22 : List UInt8) (x0_23 : Int) (s0_24 : List UInt8) : Option X25 := (d25 x0_0 x0_1 x0_2 x0_3 x0_4 x0_5 s0_6 x0_7 s0_8 x0_9 s0_10 x0_11 s0_12 x0_13 x0_14 x0_15 x0_16 x0_17 s0_18 x0_19 s0_20 x0_21 s0_22 x0_23 s0_24).val
noncomputable def sh25 (x0_0 : Int) (x0_1 : Int) (x0_2 : Int) (x0_3 : Int) (x0_4 : Int) (x0_5 : Int) (s0_6 : List UInt8) (x0_7 : Int) (s0_8 : List UInt8) (x0_9 : Int) (s0_10 : List UInt8) (x0_11 : Int) (s0_12 : List UInt8) (x0_13 : Int) (x0_14 : Int) (x0_15 : Int) (x0_16 : Int) (x0_17 : Int) (s0_18 : List UInt8) (x0_19 : Int) (s0_20 : List UInt8) (x0_21 : Int) (s0_22 : List UInt8) (x0_23 : Int) (s0_24 : List UInt8) (x : X25) : AV × List GB := ((.bool x), [])
noncomputable def sd25 (x0_0 : Int) (x0_1 : Int) (x0_2 : Int) (x0_3 : Int) (x0_4 : Int) (x0_5 : Int) (s0_6 : List UInt8) (x0_7 : Int) (s0_8 : List UInt8) (x0_9 : Int) (s0_10 : List UInt8) (x0_11 : Int) (s0_12 : List UInt8) (x0_13 : Int) (x0_14 : Int) (x0_15 : Int) (x0_16 : Int) (x0_17 : Int) (s0_18 : List UInt8) (x0_19 : Int) (s0_20 : List UInt8) (x0_21 : Int) (s0_22 : List UInt8) (x0_23 : Int) (s0_24 : List UInt8) (x : X25) : Dt (AV × List GB) := .ret ((.bool x), [])
noncomputable def s25 : FS := guardS [.agg [.i .i64, .i .i64, .i .i64, .i .i64, .i .i64, .i .i64, .s, .i .i64, .s, .i .i64, .s, .i .i64, .s, .i .i64, .i .u8, .i .i64, .i .i64, .i .i64, .s, .i .i64, .s, .i .i64, .s, .i .i64, .s]] [] fun xs H => Dt.opt (v25 (nth (nth xs 0).cells 0).intOf (nth (nth xs 0).cells 1).intOf (nth (nth xs 0).cells 2).intOf (nth (nth xs 0).cells 3).intOf (nth (nth xs 0).cells 4).intOf (nth (nth xs 0).cells 5).intOf (nth (nth xs 0).cells 6).strOf (nth (nth xs 0).cells 7).intOf (nth (nth xs 0).cells 8).strOf (nth (nth xs 0).cells 9).intOf (nth (nth xs 0).cells 10).strOf (nth (nth xs 0).cells 11).intOf (nth (nth xs 0).cells 12).strOf (nth (nth xs 0).cells 13).intOf (nth (nth xs 0).cells 14).intOf (nth (nth xs 0).cells 15).intOf (nth (nth xs 0).cells 16).intOf (nth (nth xs 0).cells 17).intOf (nth (nth xs 0).cells 18).strOf (nth (nth xs 0).cells 19).intOf (nth (nth xs 0).cells 20).strOf (nth (nth xs 0).cells 21).intOf (nth (nth xs 0).cells 22).strOf (nth (nth xs 0).cells 23).intOf (nth (nth xs 0).cells 24).strOf) (sd25 (nth (nth xs 0).cells 0).intOf (nth (nth xs 0).cells 1).intOf (nth (nth xs 0).cells 2).intOf (nth (nth xs 0).cells 3).intOf (nth (nth xs 0).cells 4).intOf (nth (nth xs 0).cells 5).intOf (nth (nth xs 0).cells 6).strOf (nth (nth xs 0).cells 7).intOf (nth (nth xs 0).cells 8).strOf (nth (nth xs 0).cells 9).intOf (nth (nth xs 0).cells 10).strOf (nth (nth xs 0).cells 11).intOf (nth (nth xs 0).cells 12).strOf (nth (nth xs 0).cells 13).intOf (nth (nth xs 0).cells 14).intOf (nth (nth xs 0).cells 15).intOf (nth (nth xs 0).cells 16).intOf (nth (nth xs 0).cells 17).intOf (nth (nth xs 0).cells 18).strOf (nth (nth xs 0).cells 19).intOf (nth (nth xs 0).cells 20).strOf (nth (nth xs 0).cells 21).intOf (nth (nth xs 0).cells 22).strOf (nth (nth xs 0).cells 23).intOf (nth (nth xs 0).cells 24).strOf)
theorem e25 (x0_0 : Int) (x0_1 : Int) (x0_2 : Int) (x0_3 : Int) (x0_4 : Int) (x0_5 : Int) (s0_6 : List UInt8) (x0_7 : Int) (s0_8 : List UInt8) (x0_9 : Int) (s0_10 : List UInt8) (x0_11 : Int) (s0_12 : List UInt8) (x0_13 : Int) (x0_14 : Int) (x0_15 : Int) (x0_16 : Int) (x0_17 : Int) (s0_18 : List UInt8) (x0_19 : Int) (s0_20 : List UInt8) (x0_21 : Int) (s0_22 : List UInt8) (x0_23 : Int) (s0_24 : List UInt8) (Q : AV × List GB → Prop) : wpN TA (cT cs25) lt25 un25 80 (evFunc TA 25 [(.agg [(.int .i64 x0_0), (.int .i64 x0_1), (.int .i64 x0_2), (.int .i64 x0_3), (.int .i64 x0_4), (.int .i64 x0_5), (.str s0_6), (.int .i64 x0_7), (.str s0_8), (.int .i64 x0_9), (.str s0_10), (.int .i64 x0_11), (.str s0_12), (.int .i64 x0_13), (.int .u8 x0_14), (.int .i64 x0_15), (.int .i64 x0_16), (.int .i64 x0_17), (.str s0_18), (.int .i64 x0_19), (.str s0_20), (.int .i64 x0_21), (.str s0_22), (.int .i64 x0_23), (.str s0_24)])] []) Q = (d25 x0_0 x0_1 x0_2 x0_3 x0_4 x0_5 s0_6 x0_7 s0_8 x0_9 s0_10 x0_11 s0_12 x0_13 x0_14 x0_15 x0_16 x0_17 s0_18 x0_19 s0_20 x0_21 s0_22 x0_23 s0_24).wp (fun x => Q (sh25 x0_0 x0_1 x0_2 x0_3 x0_4 x0_5 s0_6 x0_7 s0_8 x0_9 s0_10 x0_11 s0_12 x0_13 x0_14 x0_15 x0_16 x0_17 s0_18 x0_19 s0_20 x0_21 s0_22 x0_23 s0_24 x)) := by kernel_rfl
theorem o25 (x0_0 : Int) (x0_1 : Int) (x0_2 : Int) (x0_3 : Int) (x0_4 : Int) (x0_5 : Int) (s0_6 : List UInt8) (x0_7 : Int) (s0_8 : List UInt8) (x0_9 : Int) (s0_10 : List UInt8) (x0_11 : Int) (s0_12 : List UInt8) (x0_13 : Int) (x0_14 : Int) (x0_15 : Int) (x0_16 : Int) (x0_17 : Int) (s0_18 : List UInt8) (x0_19 : Int) (s0_20 : List UInt8) (x0_21 : Int) (s0_22 : List UInt8) (x0_23 : Int) (s0_24 : List UInt8) : (d25 x0_0 x0_1 x0_2 x0_3 x0_4 x0_5 s0_6 x0_7 s0_8 x0_9 s0_10 x0_11 s0_12 x0_13 x0_14 x0_15 x0_16 x0_17 s0_18 x0_19 s0_20 x0_21 s0_22 x0_23 s0_24).obs := by
  unfold d25
  repeat' (first | exact trivial | apply And.intro)
theorem k25 : FRight TA 25 s25 := fright (D := fun xs H => d25 (nth (nth xs 0).cells 0).intOf (nth (nth xs 0).cells 1).intOf (nth (nth xs 0).cells 2).intOf (nth (nth xs 0).cells 3).intOf (nth (nth xs 0).cells 4).intOf (nth (nth xs 0).cells 5).intOf (nth (nth xs 0).cells 6).strOf (nth (nth xs 0).cells 7).intOf (nth (nth xs 0).cells 8).strOf (nth (nth xs 0).cells 9).intOf (nth (nth xs 0).cells 10).strOf (nth (nth xs 0).cells 11).intOf (nth (nth xs 0).cells 12).strOf (nth (nth xs 0).cells 13).intOf (nth (nth xs 0).cells 14).intOf (nth (nth xs 0).cells 15).intOf (nth (nth xs 0).cells 16).intOf (nth (nth xs 0).cells 17).intOf (nth (nth xs 0).cells 18).strOf (nth (nth xs 0).cells 19).intOf (nth (nth xs 0).cells 20).strOf (nth (nth xs 0).cells 21).intOf (nth (nth xs 0).cells 22).strOf (nth (nth xs 0).cells 23).intOf (nth (nth xs 0).cells 24).strOf) (sh := fun xs H => sh25 (nth (nth xs 0).cells 0).intOf (nth (nth xs 0).cells 1).intOf (nth (nth xs 0).cells 2).intOf (nth (nth xs 0).cells 3).intOf (nth (nth xs 0).cells 4).intOf (nth (nth xs 0).cells 5).intOf (nth (nth xs 0).cells 6).strOf (nth (nth xs 0).cells 7).intOf (nth (nth xs 0).cells 8).strOf (nth (nth xs 0).cells 9).intOf (nth (nth xs 0).cells 10).strOf (nth (nth xs 0).cells 11).intOf (nth (nth xs 0).cells 12).strOf (nth (nth xs 0).cells 13).intOf (nth (nth xs 0).cells 14).intOf (nth (nth xs 0).cells 15).intOf (nth (nth xs 0).cells 16).intOf (nth (nth xs 0).cells 17).intOf (nth (nth xs 0).cells 18).strOf (nth (nth xs 0).cells 19).intOf (nth (nth xs 0).cells 20).strOf (nth (nth xs 0).cells 21).intOf (nth (nth xs 0).cells 22).strOf (nth (nth xs 0).cells 23).intOf (nth (nth xs 0).cells 24).strOf) cr25 (fun xs H Q => e25 (nth (nth xs 0).cells 0).intOf (nth (nth xs 0).cells 1).intOf (nth (nth xs 0).cells 2).intOf (nth (nth xs 0).cells 3).intOf (nth (nth xs 0).cells 4).intOf (nth (nth xs 0).cells 5).intOf (nth (nth xs 0).cells 6).strOf (nth (nth xs 0).cells 7).intOf (nth (nth xs 0).cells 8).strOf (nth (nth xs 0).cells 9).intOf (nth (nth xs 0).cells 10).strOf (nth (nth xs 0).cells 11).intOf (nth (nth xs 0).cells 12).strOf (nth (nth xs 0).cells 13).intOf (nth (nth xs 0).cells 14).intOf (nth (nth xs 0).cells 15).intOf (nth (nth xs 0).cells 16).intOf (nth (nth xs 0).cells 17).intOf (nth (nth xs 0).cells 18).strOf (nth (nth xs 0).cells 19).intOf (nth (nth xs 0).cells 20).strOf (nth (nth xs 0).cells 21).intOf (nth (nth xs 0).cells 22).strOf (nth (nth xs 0).cells 23).intOf (nth (nth xs 0).cells 24).strOf Q) (fun xs H => o25 (nth (nth xs 0).cells 0).intOf (nth (nth xs 0).cells 1).intOf (nth (nth xs 0).cells 2).intOf (nth (nth xs 0).cells 3).intOf (nth (nth xs 0).cells 4).intOf (nth (nth xs 0).cells 5).intOf (nth (nth xs 0).cells 6).strOf (nth (nth xs 0).cells 7).intOf (nth (nth xs 0).cells 8).strOf (nth (nth xs 0).cells 9).intOf (nth (nth xs 0).cells 10).strOf (nth (nth xs 0).cells 11).intOf (nth (nth xs 0).cells 12).strOf (nth (nth xs 0).cells 13).intOf (nth (nth xs 0).cells 14).intOf (nth (nth xs 0).cells 15).intOf (nth (nth xs 0).cells 16).intOf (nth (nth xs 0).cells 17).intOf (nth (nth xs 0).cells 18).strOf (nth (nth xs 0).cells 19).intOf (nth (nth xs 0).cells 20).strOf (nth (nth xs 0).cells 21).intOf (nth (nth xs 0).cells 22).strOf (nth (nth xs 0).cells 23).intOf (nth (nth xs 0).cells 24).strOf) (by intro xs H x r h; exact (Option.some.inj h).symm)
/-! slices.Clone[[]vedette/api.Thing,vedette/api.Thing] -/
noncomputable def un88 : Nat → Bool := fun _ => false
noncomputable def cs88 : List (Nat × FS) := []
theorem cr88 : CRight TA (cT cs88) := cT_right cT_nil
noncomputable def lt88 : LT := fun rid st => .fail
abbrev X88 : Type := Bool × (List (List AV))
noncomputable def d88 (n0 : Bool) (r0 : List (List AV)) : Dt X88 :=
  .br n0
  (.ret (true, []))
  (.br (decide ((0 + r0.length) ≤ 268435456))
    (.br (r0.all (fun r => r.all AV.pure1 && r.length == 11))
      (.ret (false, r0)) (.fail)) (.fail))
noncomputable def v88 (n0 : Bool) (r0 : List (List AV)) : Option X88 := (d88 n0 r0).val
noncomputable def sh88 (n0 : Bool) (r0 : List (List AV)) (x : X88) : AV × List GB := ((.sl 11 x.1 x.2 (.tc 0)), [])
noncomputable def sd88 (n0 : Bool) (r0 : List (List AV)) (x : X88) : Dt (AV × List GB) := .ret ((.sl 11 x.1 x.2 (.tc 0)), [])
noncomputable def s88 : FS := guardS [.c (.sl 11 .no)] [] fun xs H => Dt.opt (v88 (nth xs 0).slNil (nth xs 0).slRows) (sd88 (nth xs 0).slNil (nth xs 0).slRows)
theorem e88 (n0 : Bool) (r0 : List (List AV)) (Q : AV × List GB → Prop) : wpN TA (cT cs88) lt88 un88 80 (evFunc TA 88 [(.sl 11 n0 r0 .no)] []) Q = (d88 n0 r0).wp (fun x => Q (sh88 n0 r0 x)) := by kernel_rfl
theorem o88 (n0 : Bool) (r0 : List (List AV)) : (d88 n0 r0).obs := by
  unfold d88
  repeat' (first | exact trivial | apply And.intro)
theorem k88 : FRight TA 88 s88 := fright (D := fun xs H => d88 (nth xs 0).slNil (nth xs 0).slRows) (sh := fun xs H => sh88 (nth xs 0).slNil (nth xs 0).slRows) cr88 (fun xs H Q => e88 (nth xs 0).slNil (nth xs 0).slRows Q) (fun xs H => o88 (nth xs 0).slNil (nth xs 0).slRows) (by intro xs H x r h; exact (Option.some.inj h).symm)
/-! cmp.isNaN[int] -/
noncomputable def un168 : Nat → Bool := fun _ => false
noncomputable def cs168 : List (Nat × FS) := []
theorem cr168 : CRight TA (cT cs168) := cT_right cT_nil
noncomputable def lt168 : LT := fun rid st => .fail
abbrev X168 : Type := Bool
noncomputable def d168 (x0 : Int) : Dt X168 :=
  .ret (!(x0 == x0))
noncomputable def v168 (x0 : Int) : Option X168 := (d168 x0).val
noncomputable def sh168 (x0 : Int) (x : X168) : AV × List GB := ((.bool x), [])
noncomputable def sd168 (x0 : Int) (x : X168) : Dt (AV × List GB) := .ret ((.bool x), [])
noncomputable def s168 : FS := guardS [.c (.i .i64)] [] fun xs H => Dt.opt (v168 (nth xs 0).intOf) (sd168 (nth xs 0).intOf)
theorem e168 (x0 : Int) (Q : AV × List GB → Prop) : wpN TA (cT cs168) lt168 un168 80 (evFunc TA 168 [(.int .i64 x0)] []) Q = (d168 x0).wp (fun x => Q (sh168 x0 x)) := by kernel_rfl
theorem o168 (x0 : Int) : (d168 x0).obs := by
  unfold d168
  repeat' (first | exact trivial | apply And.intro)
theorem k168 : FRight TA 168 s168 := fright (D := fun xs H => d168 (nth xs 0).intOf) (sh := fun xs H => sh168 (nth xs 0).intOf) cr168 (fun xs H Q => e168 (nth xs 0).intOf Q) (fun xs H => o168 (nth xs 0).intOf) (by intro xs H x r h; exact (Option.some.inj h).symm)
/-! cmp.Compare[int] -/
noncomputable def un111 : Nat → Bool := fun _ => false
noncomputable def cs111 : List (Nat × FS) := [(168, s168)]
theorem cr111 : CRight TA (cT cs111) := cT_right (cT_cons k168 cT_nil)
noncomputable def lt111 : LT := fun rid st => .fail
abbrev X111 : Type := Int
noncomputable def d111 (x0 : Int) (x1 : Int) : Dt X111 :=
  Dt.opt (v168 x0) fun y1 =>
  Dt.opt (v168 x1) fun y2 =>
  .br y1
  (.br y2
    (.ret 0)
    (.ret (-1)))
  (.br y2
    (.ret 1)
    (.br (decide (x0 < x1))
      (.ret (-1))
      (.br (decide (x1 < x0))
        (.ret 1)
        (.ret 0))))
noncomputable def v111 (x0 : Int) (x1 : Int) : Option X111 := (d111 x0 x1).val
noncomputable def sh111 (x0 : Int) (x1 : Int) (x : X111) : AV × List GB := ((.int .i64 x), [])
noncomputable def sd111 (x0 : Int) (x1 : Int) (x : X111) : Dt (AV × List GB) := .ret ((.int .i64 x), [])
noncomputable def s111 : FS := guardS [.c (.i .i64), .c (.i .i64)] [] fun xs H => Dt.opt (v111 (nth xs 0).intOf (nth xs 1).intOf) (sd111 (nth xs 0).intOf (nth xs 1).intOf)
theorem e111 (x0 : Int) (x1 : Int) (Q : AV × List GB → Prop) : wpN TA (cT cs111) lt111 un111 80 (evFunc TA 111 [(.int .i64 x0), (.int .i64 x1)] []) Q = (d111 x0 x1).wp (fun x => Q (sh111 x0 x1 x)) := by kernel_rfl
theorem o111 (x0 : Int) (x1 : Int) : (d111 x0 x1).obs := by
  unfold d111
  repeat' (first | exact trivial | apply And.intro)
theorem k111 : FRight TA 111 s111 := fright (D := fun xs H => d111 (nth xs 0).intOf (nth xs 1).intOf) (sh := fun xs H => sh111 (nth xs 0).intOf (nth xs 1).intOf) cr111 (fun xs H Q => e111 (nth xs 0).intOf (nth xs 1).intOf Q) (fun xs H => o111 (nth xs 0).intOf (nth xs 1).intOf) (by intro xs H x r h; exact (Option.some.inj h).symm)
/-! vedette/event.Apply$1 -/
noncomputable def un110 : Nat → Bool := fun _ => false
noncomputable def cs110 : List (Nat × FS) := [(111, s111)]
theorem cr110 : CRight TA (cT cs110) := cT_right (cT_cons k111 cT_nil)
noncomputable def lt110 : LT := fun rid st => .fail
abbrev X110 : Type := Int
noncomputable def d110 (x0_0 : Int) (x0_1 : Int) (x0_2 : Int) (x0_3 : Int) (s0_4 : List UInt8) (x0_5 : Int) (s0_6 : List UInt8) (x0_7 : Int) (s0_8 : List UInt8) (x0_9 : Int) (s0_10 : List UInt8) (x1 : Int) : Dt X110 :=
  Dt.opt (v111 x0_0 x1) fun y1 =>
  .ret y1
noncomputable def v110 (x0_0 : Int) (x0_1 : Int) (x0_2 : Int) (x0_3 : Int) (s0_4 : List UInt8) (x0_5 : Int) (s0_6 : List UInt8) (x0_7 : Int) (s0_8 : List UInt8) (x0_9 : Int) (s0_10 : List UInt8) (x1 : Int) : Option X110 := (d110 x0_0 x0_1 x0_2 x0_3 s0_4 x0_5 s0_6 x0_7 s0_8 x0_9 s0_10 x1).val
noncomputable def sh110 (x0_0 : Int) (x0_1 : Int) (x0_2 : Int) (x0_3 : Int) (s0_4 : List UInt8) (x0_5 : Int) (s0_6 : List UInt8) (x0_7 : Int) (s0_8 : List UInt8) (x0_9 : Int) (s0_10 : List UInt8) (x1 : Int) (x : X110) : AV × List GB := ((.int .i64 x), [])
noncomputable def sd110 (x0_0 : Int) (x0_1 : Int) (x0_2 : Int) (x0_3 : Int) (s0_4 : List UInt8) (x0_5 : Int) (s0_6 : List UInt8) (x0_7 : Int) (s0_8 : List UInt8) (x0_9 : Int) (s0_10 : List UInt8) (x1 : Int) (x : X110) : Dt (AV × List GB) := .ret ((.int .i64 x), [])
noncomputable def s110 : FS := guardS [.agg [.i .i64, .i .i64, .i .i64, .i .i64, .s, .i .i64, .s, .i .i64, .s, .i .i64, .s], .c (.i .i64)] [] fun xs H => Dt.opt (v110 (nth (nth xs 0).cells 0).intOf (nth (nth xs 0).cells 1).intOf (nth (nth xs 0).cells 2).intOf (nth (nth xs 0).cells 3).intOf (nth (nth xs 0).cells 4).strOf (nth (nth xs 0).cells 5).intOf (nth (nth xs 0).cells 6).strOf (nth (nth xs 0).cells 7).intOf (nth (nth xs 0).cells 8).strOf (nth (nth xs 0).cells 9).intOf (nth (nth xs 0).cells 10).strOf (nth xs 1).intOf) (sd110 (nth (nth xs 0).cells 0).intOf (nth (nth xs 0).cells 1).intOf (nth (nth xs 0).cells 2).intOf (nth (nth xs 0).cells 3).intOf (nth (nth xs 0).cells 4).strOf (nth (nth xs 0).cells 5).intOf (nth (nth xs 0).cells 6).strOf (nth (nth xs 0).cells 7).intOf (nth (nth xs 0).cells 8).strOf (nth (nth xs 0).cells 9).intOf (nth (nth xs 0).cells 10).strOf (nth xs 1).intOf)
theorem e110 (x0_0 : Int) (x0_1 : Int) (x0_2 : Int) (x0_3 : Int) (s0_4 : List UInt8) (x0_5 : Int) (s0_6 : List UInt8) (x0_7 : Int) (s0_8 : List UInt8) (x0_9 : Int) (s0_10 : List UInt8) (x1 : Int) (Q : AV × List GB → Prop) : wpN TA (cT cs110) lt110 un110 80 (evFunc TA 110 [(.agg [(.int .i64 x0_0), (.int .i64 x0_1), (.int .i64 x0_2), (.int .i64 x0_3), (.str s0_4), (.int .i64 x0_5), (.str s0_6), (.int .i64 x0_7), (.str s0_8), (.int .i64 x0_9), (.str s0_10)]), (.int .i64 x1)] []) Q = (d110 x0_0 x0_1 x0_2 x0_3 s0_4 x0_5 s0_6 x0_7 s0_8 x0_9 s0_10 x1).wp (fun x => Q (sh110 x0_0 x0_1 x0_2 x0_3 s0_4 x0_5 s0_6 x0_7 s0_8 x0_9 s0_10 x1 x)) := by kernel_rfl
theorem o110 (x0_0 : Int) (x0_1 : Int) (x0_2 : Int) (x0_3 : Int) (s0_4 : List UInt8) (x0_5 : Int) (s0_6 : List UInt8) (x0_7 : Int) (s0_8 : List UInt8) (x0_9 : Int) (s0_10 : List UInt8) (x1 : Int) : (d110 x0_0 x0_1 x0_2 x0_3 s0_4 x0_5 s0_6 x0_7 s0_8 x0_9 s0_10 x1).obs := by
  unfold d110
  repeat' (first | exact trivial | apply And.intro)
theorem k110 : FRight TA 110 s110 := fright (D := fun xs H => d110 (nth (nth xs 0).cells 0).intOf (nth (nth xs 0).cells 1).intOf (nth (nth xs 0).cells 2).intOf (nth (nth xs 0).cells 3).intOf (nth (nth xs 0).cells 4).strOf (nth (nth xs 0).cells 5).intOf (nth (nth xs 0).cells 6).strOf (nth (nth xs 0).cells 7).intOf (nth (nth xs 0).cells 8).strOf (nth (nth xs 0).cells 9).intOf (nth (nth xs 0).cells 10).strOf (nth xs 1).intOf) (sh := fun xs H => sh110 (nth (nth xs 0).cells 0).intOf (nth (nth xs 0).cells 1).intOf (nth (nth xs 0).cells 2).intOf (nth (nth xs 0).cells 3).intOf (nth (nth xs 0).cells 4).strOf (nth (nth xs 0).cells 5).intOf (nth (nth xs 0).cells 6).strOf (nth (nth xs 0).cells 7).intOf (nth (nth xs 0).cells 8).strOf (nth (nth xs 0).cells 9).intOf (nth (nth xs 0).cells 10).strOf (nth xs 1).intOf) cr110 (fun xs H Q => e110 (nth (nth xs 0).cells 0).intOf (nth (nth xs 0).cells 1).intOf (nth (nth xs 0).cells 2).intOf (nth (nth xs 0).cells 3).intOf (nth (nth xs 0).cells 4).strOf (nth (nth xs 0).cells 5).intOf (nth (nth xs 0).cells 6).strOf (nth (nth xs 0).cells 7).intOf (nth (nth xs 0).cells 8).strOf (nth (nth xs 0).cells 9).intOf (nth (nth xs 0).cells 10).strOf (nth xs 1).intOf Q) (fun xs H => o110 (nth (nth xs 0).cells 0).intOf (nth (nth xs 0).cells 1).intOf (nth (nth xs 0).cells 2).intOf (nth (nth xs 0).cells 3).intOf (nth (nth xs 0).cells 4).strOf (nth (nth xs 0).cells 5).intOf (nth (nth xs 0).cells 6).strOf (nth (nth xs 0).cells 7).intOf (nth (nth xs 0).cells 8).strOf (nth (nth xs 0).cells 9).intOf (nth (nth xs 0).cells 10).strOf (nth xs 1).intOf) (by intro xs H x r h; exact (Option.some.inj h).symm)
/-! slices.BinarySearchFunc[[]vedette/api.Thing,vedette/api.Thing,int] -/
noncomputable def un109 : Nat → Bool := fun _ => false
noncomputable def cs109 : List (Nat × FS) := [(110, s110)]
theorem cr109 : CRight TA (cT cs109) := cT_right (cT_cons k110 cT_nil)
noncomputable def c109_3 : Code := cB (cB (cL (cR (cR (cR (bodyOf Try.f109))))))
abbrev P109_3 : Type := Int × Int
abbrev Y109_3 : Type := Int
noncomputable def d109_3 (n0 : Bool) (r0 : List (List AV)) (x1 : Int) (x8 : Int) (x9 : Int) (x10 : Int) : Dt (P109_3 ⊕ Y109_3) :=
  .br (decide (x9 < x10))
  (.br (((decide (0 ≤ (wrapF .i64 ((wrapF .u64 (wrapF .i64 (x9 + x10))).fdiv 2)))) && (decide ((wrapF .i64 ((wrapF .u64 (wrapF .i64 (x9 + x10))).fdiv 2)) < (r0.length : Int)))) && true)
    (.br (epOk [(.i .i64), (.i .i64), (.i .i64), (.i .i64), .s, (.i .i64), .s, (.i .i64), .s, (.i .i64), .s] (r0.getD (wrapF .i64 ((wrapF .u64 (wrapF .i64 (x9 + x10))).fdiv 2)).toNat []) 0)
      (Dt.opt (v110 ((nth (r0.getD (wrapF .i64 ((wrapF .u64 (wrapF .i64 (x9 + x10))).fdiv 2)).toNat []) 0).intOf) ((nth (r0.getD (wrapF .i64 ((wrapF .u64 (wrapF .i64 (x9 + x10))).fdiv 2)).toNat []) 1).intOf) ((nth (r0.getD (wrapF .i64 ((wrapF .u64 (wrapF .i64 (x9 + x10))).fdiv 2)).toNat []) 2).intOf) ((nth (r0.getD (wrapF .i64 ((wrapF .u64 (wrapF .i64 (x9 + x10))).fdiv 2)).toNat []) 3).intOf) ((nth (r0.getD (wrapF .i64 ((wrapF .u64 (wrapF .i64 (x9 + x10))).fdiv 2)).toNat []) 4).strOf) ((nth (r0.getD (wrapF .i64 ((wrapF .u64 (wrapF .i64 (x9 + x10))).fdiv 2)).toNat []) 5).intOf) ((nth (r0.getD (wrapF .i64 ((wrapF .u64 (wrapF .i64 (x9 + x10))).fdiv 2)).toNat []) 6).strOf) ((nth (r0.getD (wrapF .i64 ((wrapF .u64 (wrapF .i64 (x9 + x10))).fdiv 2)).toNat []) 7).intOf) ((nth (r0.getD (wrapF .i64 ((wrapF .u64 (wrapF .i64 (x9 + x10))).fdiv 2)).toNat []) 8).strOf) ((nth (r0.getD (wrapF .i64 ((wrapF .u64 (wrapF .i64 (x9 + x10))).fdiv 2)).toNat []) 9).intOf) ((nth (r0.getD (wrapF .i64 ((wrapF .u64 (wrapF .i64 (x9 + x10))).fdiv 2)).toNat []) 10).strOf) x1) fun y1 =>
        .br (decide (y1 < 0))
        (.ret (.inl ((wrapF .i64 ((wrapF .i64 ((wrapF .u64 (wrapF .i64 (x9 + x10))).fdiv 2)) + 1)), x10)))
        (.ret (.inl (x9, (wrapF .i64 ((wrapF .u64 (wrapF .i64 (x9 + x10))).fdiv 2)))))) (.fail)) (.fail))
  (.ret (.inr x9))
noncomputable def w109_3 (n0 : Bool) (r0 : List (List AV)) (x1 : Int) (x8 : Int) (x9 : Int) (x10 : Int) : Option Y109_3 := loopV (fun p : P109_3 => d109_3 n0 r0 x1 x8 p.1 p.2) (x9, x10)
noncomputable def hd109_3 (n0 : Bool) (r0 : List (List AV)) (x1 : Int) (x8 : Int) (x9 : Int) (x10 : Int) : St := (stAt 49 false [(0, (.sl 11 n0 r0 .no)), (1, (.int .i64 x1)), (2, (.fn 110 [])), (8, (.int .i64 x8)), (9, (.int .i64 x9)), (10, (.int .i64 x10))] [] [])
noncomputable def ex109_3 (n0 : Bool) (r0 : List (List AV)) (x1 : Int) (x8 : Int) (x : Y109_3) : Ex × St := ((.exit 0), (stAt 49 false [(0, (.sl 11 n0 r0 .no)), (1, (.int .i64 x1)), (2, (.fn 110 [])), (8, (.int .i64 x8)), (9, (.int .i64 x))] [] []))
noncomputable def xd109_3 (n0 : Bool) (r0 : List (List AV)) (x1 : Int) (x8 : Int) (x : Y109_3) : Dt (Ex × St) := .ret ((.exit 0), (stAt 49 false [(0, (.sl 11 n0 r0 .no)), (1, (.int .i64 x1)), (2, (.fn 110 [])), (8, (.int .i64 x8)), (9, (.int .i64 x))] [] []))
noncomputable def lt109 : LT := fun rid st => bif Nat.beq rid 3 then Dt.opt (w109_3 (nth st.tm 0).slNil (nth st.tm 0).slRows (nth st.tm 1).intOf (nth st.tm 8).intOf (nth st.tm 9).intOf (nth st.tm 10).intOf) (xd109_3 (nth st.tm 0).slNil (nth st.tm 0).slRows (nth st.tm 1).intOf (nth st.tm 8).intOf) else .fail
theorem r109_3 (n0 : Bool) (r0 : List (List AV)) (x1 : Int) (x8 : Int) (p : P109_3) (Q : Ex × St → Prop) : wpN TA (cT cs109) lt109 un109 80 (roundR TA 109 3 c109_3 (hd109_3 n0 r0 x1 x8 p.1 p.2)) Q = (d109_3 n0 r0 x1 x8 p.1 p.2).wp (fun o => Sum.rec (fun p => Q (.normal, hd109_3 n0 r0 x1 x8 p.1 p.2)) (fun x => Q (ex109_3 n0 r0 x1 x8 x)) o) := by kernel_rfl
theorem ob109_3 (n0 : Bool) (r0 : List (List AV)) (x1 : Int) (x8 : Int) (p : P109_3) : (d109_3 n0 r0 x1 x8 p.1 p.2).obs := by
  unfold d109_3
  repeat' (first | exact trivial | apply And.intro)
theorem lok109_3 (n0 : Bool) (r0 : List (List AV)) (x1 : Int) (x8 : Int) (x9 : Int) (x10 : Int) : LoopOk TA 109 3 c109_3 (hd109_3 n0 r0 x1 x8 x9 x10) (Dt.opt (w109_3 n0 r0 x1 x8 x9 x10) (xd109_3 n0 r0 x1 x8)) :=
  loop_okD cr109 (fun p Q => r109_3 n0 r0 x1 x8 p Q) (fun p => ob109_3 n0 r0 x1 x8 p) (fun x h => by cases h) (by intro x r h; exact (Option.some.inj h).symm) (x9, x10)
abbrev X109 : Type := Int × Bool
noncomputable def d109 (n0 : Bool) (r0 : List (List AV)) (x1 : Int) : Dt X109 :=
  .ob (LoopOk TA 109 3 c109_3 (hd109_3 n0 r0 x1 (r0.length : Int) 0 (r0.length : Int)) (Dt.opt (w109_3 n0 r0 x1 (r0.length : Int) 0 (r0.length : Int)) (xd109_3 n0 r0 x1 (r0.length : Int))))
  (Dt.opt (w109_3 n0 r0 x1 (r0.length : Int) 0 (r0.length : Int)) fun y2 =>
    .br (decide (y2 < (r0.length : Int)))
    (.br (((decide (0 ≤ y2)) && (decide (y2 < (r0.length : Int)))) && true)
      (.br (epOk [(.i .i64), (.i .i64), (.i .i64), (.i .i64), .s, (.i .i64), .s, (.i .i64), .s, (.i .i64), .s] (r0.getD y2.toNat []) 0)
        (Dt.opt (v110 ((nth (r0.getD y2.toNat []) 0).intOf) ((nth (r0.getD y2.toNat []) 1).intOf) ((nth (r0.getD y2.toNat []) 2).intOf) ((nth (r0.getD y2.toNat []) 3).intOf) ((nth (r0.getD y2.toNat []) 4).strOf) ((nth (r0.getD y2.toNat []) 5).intOf) ((nth (r0.getD y2.toNat []) 6).strOf) ((nth (r0.getD y2.toNat []) 7).intOf) ((nth (r0.getD y2.toNat []) 8).strOf) ((nth (r0.getD y2.toNat []) 9).intOf) ((nth (r0.getD y2.toNat []) 10).strOf) x1) fun y3 =>
          .ret (y2, (y3 == 0))) (.fail)) (.fail))
    (.ret (y2, false)))
noncomputable def v109 (n0 : Bool) (r0 : List (List AV)) (x1 : Int) : Option X109 := (d109 n0 r0 x1).val
noncomputable def sh109 (n0 : Bool) (r0 : List (List AV)) (x1 : Int) (x : X109) : AV × List GB := ((.tup [(.int .i64 x.1), (.bool x.2)]), [])
noncomputable def sd109 (n0 : Bool) (r0 : List (List AV)) (x1 : Int) (x : X109) : Dt (AV × List GB) := .ret ((.tup [(.int .i64 x.1), (.bool x.2)]), [])
noncomputable def s109 : FS := guardS [.c (.sl 11 .no), .c (.i .i64), .c (.ex (.fn 110 []))] [] fun xs H => Dt.opt (v109 (nth xs 0).slNil (nth xs 0).slRows (nth xs 1).intOf) (sd109 (nth xs 0).slNil (nth xs 0).slRows (nth xs 1).intOf)
theorem e109 (n0 : Bool) (r0 : List (List AV)) (x1 : Int) (Q : AV × List GB → Prop) : wpN TA (cT cs109) lt109 un109 80 (evFunc TA 109 [(.sl 11 n0 r0 .no), (.int .i64 x1), (.fn 110 [])] []) Q = (d109 n0 r0 x1).wp (fun x => Q (sh109 n0 r0 x1 x)) := by kernel_rfl
theorem o109 (n0 : Bool) (r0 : List (List AV)) (x1 : Int) : (d109 n0 r0 x1).obs := by
  unfold d109
  repeat' (first | exact trivial | apply lok109_3 | apply And.intro)
theorem k109 : FRight TA 109 s109 := fright (D := fun xs H => d109 (nth xs 0).slNil (nth xs 0).slRows (nth xs 1).intOf) (sh := fun xs H => sh109 (nth xs 0).slNil (nth xs 0).slRows (nth xs 1).intOf) cr109 (fun xs H Q => e109 (nth xs 0).slNil (nth xs 0).slRows (nth xs 1).intOf Q) (fun xs H => o109 (nth xs 0).slNil (nth xs 0).slRows (nth xs 1).intOf) (by intro xs H x r h; exact (Option.some.inj h).symm)
/-! vedette/fields.Apply -/
noncomputable def un113 : Nat → Bool := fun r => Nat.beq r 4
noncomputable def cs113 : List (Nat × FS) := [(152, s152)]
theorem cr113 : CRight TA (cT cs113) := cT_right (cT_cons k152 cT_nil)
noncomputable def lt113 : LT := fun rid st => .fail
abbrev X113 : Type := Int × Int × Int × (List UInt8) × Int × (List UInt8) × Int × (List UInt8) × Int × (List UInt8)
noncomputable def d113 (x0_0 : Int) (x0_1 : Int) (x0_2 : Int) (x0_3 : Int) (s0_4 : List UInt8) (x0_5 : Int) (s0_6 : List UInt8) (x0_7 : Int) (s0_8 : List UInt8) (x0_9 : Int) (s0_10 : List UInt8) (x1_0 : Int) (x1_1 : Int) (x1_2 : Int) (x1_3 : Int) (x1_4 : Int) (s1_5 : List UInt8) (x1_6 : Int) (s1_7 : List UInt8) (x1_8 : Int) (s1_9 : List UInt8) (x1_10 : Int) (s1_11 : List UInt8) : Dt X113 :=
  .br (!((wrapF .u8 (((BitVec.ofInt 8 x1_1 &&& BitVec.ofInt 8 1).toNat : Nat) : Int)) == 0))
  (Dt.opt (v152 x1_1 0) fun y1 =>
    .br y1
    (Dt.opt (v152 x1_1 1) fun y2 =>
      .br y2
      (Dt.opt (v152 x1_1 2) fun y3 =>
        .br y3
        (Dt.opt (v152 x1_1 3) fun y4 =>
          .br y4
          (.ret (x1_2, x1_3, x1_4, s1_5, x1_6, s1_7, x1_8, s1_9, x1_10, s1_11))
          (.ret (x1_2, x1_3, x1_4, s1_5, x1_6, s1_7, x1_8, s1_9, x0_9, s0_10)))
        (Dt.opt (v152 x1_1 3) fun y5 =>
          .br y5
          (.ret (x1_2, x1_3, x1_4, s1_5, x1_6, s1_7, x0_7, s0_8, x1_10, s1_11))
          (.ret (x1_2, x1_3, x1_4, s1_5, x1_6, s1_7, x0_7, s0_8, x0_9, s0_10))))
      (Dt.opt (v152 x1_1 2) fun y6 =>
        .br y6
        (Dt.opt (v152 x1_1 3) fun y7 =>
          .br y7
          (.ret (x1_2, x1_3, x1_4, s1_5, x0_5, s0_6, x1_8, s1_9, x1_10, s1_11))
          (.ret (x1_2, x1_3, x1_4, s1_5, x0_5, s0_6, x1_8, s1_9, x0_9, s0_10)))
        (Dt.opt (v152 x1_1 3) fun y8 =>
          .br y8
          (.ret (x1_2, x1_3, x1_4, s1_5, x0_5, s0_6, x0_7, s0_8, x1_10, s1_11))
          (.ret (x1_2, x1_3, x1_4, s1_5, x0_5, s0_6, x0_7, s0_8, x0_9, s0_10)))))
    (Dt.opt (v152 x1_1 1) fun y9 =>
      .br y9
      (Dt.opt (v152 x1_1 2) fun y10 =>
        .br y10
        (Dt.opt (v152 x1_1 3) fun y11 =>
          .br y11
          (.ret (x1_2, x1_3, x0_3, s0_4, x1_6, s1_7, x1_8, s1_9, x1_10, s1_11))
          (.ret (x1_2, x1_3, x0_3, s0_4, x1_6, s1_7, x1_8, s1_9, x0_9, s0_10)))
        (Dt.opt (v152 x1_1 3) fun y12 =>
          .br y12
          (.ret (x1_2, x1_3, x0_3, s0_4, x1_6, s1_7, x0_7, s0_8, x1_10, s1_11))
          (.ret (x1_2, x1_3, x0_3, s0_4, x1_6, s1_7, x0_7, s0_8, x0_9, s0_10))))
      (Dt.opt (v152 x1_1 2) fun y13 =>
        .br y13
        (Dt.opt (v152 x1_1 3) fun y14 =>
          .br y14
          (.ret (x1_2, x1_3, x0_3, s0_4, x0_5, s0_6, x1_8, s1_9, x1_10, s1_11))
          (.ret (x1_2, x1_3, x0_3, s0_4, x0_5, s0_6, x1_8, s1_9, x0_9, s0_10)))
        (Dt.opt (v152 x1_1 3) fun y15 =>
          .br y15
          (.ret (x1_2, x1_3, x0_3, s0_4, x0_5, s0_6, x0_7, s0_8, x1_10, s1_11))
          (.ret (x1_2, x1_3, x0_3, s0_4, x0_5, s0_6, x0_7, s0_8, x0_9, s0_10))))))
  (Dt.opt (v152 x1_1 0) fun y16 =>
    .br y16
    (Dt.opt (v152 x1_1 1) fun y17 =>
      .br y17
      (Dt.opt (v152 x1_1 2) fun y18 =>
        .br y18
        (Dt.opt (v152 x1_1 3) fun y19 =>
          .br y19
          (.ret (x0_1, x0_2, x1_4, s1_5, x1_6, s1_7, x1_8, s1_9, x1_10, s1_11))
          (.ret (x0_1, x0_2, x1_4, s1_5, x1_6, s1_7, x1_8, s1_9, x0_9, s0_10)))
        (Dt.opt (v152 x1_1 3) fun y20 =>
          .br y20
          (.ret (x0_1, x0_2, x1_4, s1_5, x1_6, s1_7, x0_7, s0_8, x1_10, s1_11))
          (.ret (x0_1, x0_2, x1_4, s1_5, x1_6, s1_7, x0_7, s0_8, x0_9, s0_10))))
      (Dt.opt (v152 x1_1 2) fun y21 =>
        .br y21
        (Dt.opt (v152 x1_1 3) fun y22 =>
          .br y22
          (.ret (x0_1, x0_2, x1_4, s1_5, x0_5, s0_6, x1_8, s1_9, x1_10, s1_11))
          (.ret (x0_1, x0_2, x1_4, s1_5, x0_5, s0_6, x1_8, s1_9, x0_9, s0_10)))
        (Dt.opt (v152 x1_1 3) fun y23 =>
          .br y23
          (.ret (x0_1, x0_2, x1_4, s1_5, x0_5, s0_6, x0_7, s0_8, x1_10, s1_11))
          (.ret (x0_1, x0_2, x1_4, s1_5, x0_5, s0_6, x0_7, s0_8, x0_9, s0_10)))))
    (Dt.opt (v152 x1_1 1) fun y24 =>
      .br y24
      (Dt.opt (v152 x1_1 2) fun y25 =>
        .br y25
        (Dt.opt (v152 x1_1 3) fun y26 =>
          .br y26
          (.ret (x0_1, x0_2, x0_3, s0_4, x1_6, s1_7, x1_8, s1_9, x1_10, s1_11))
          (.ret (x0_1, x0_2, x0_3, s0_4, x1_6, s1_7, x1_8, s1_9, x0_9, s0_10)))
        (Dt.opt (v152 x1_1 3) fun y27 =>
          .br y27
          (.ret (x0_1, x0_2, x0_3, s0_4, x1_6, s1_7, x0_7, s0_8, x1_10, s1_11))
          (.ret (x0_1, x0_2, x0_3, s0_4, x1_6, s1_7, x0_7, s0_8, x0_9, s0_10))))
      (Dt.opt (v152 x1_1 2) fun y28 =>
        .br y28
        (Dt.opt (v152 x1_1 3) fun y29 =>
          .br y29
          (.ret (x0_1, x0_2, x0_3, s0_4, x0_5, s0_6, x1_8, s1_9, x1_10, s1_11))
          (.ret (x0_1, x0_2, x0_3, s0_4, x0_5, s0_6, x1_8, s1_9, x0_9, s0_10)))
        (Dt.opt (v152 x1_1 3) fun y30 =>
          .br y30
          (.ret (x0_1, x0_2, x0_3, s0_4, x0_5, s0_6, x0_7, s0_8, x1_10, s1_11))
          (.ret (x0_1, x0_2, x0_3, s0_4, x0_5, s0_6, x0_7, s0_8, x0_9, s0_10))))))
noncomputable def v113 (x0_0 : Int) (x0_1 : Int) (x0_2 : Int) (x0_3 : Int) (s0_4 : List UInt8) (x0_5 : Int) (s0_6 : List UInt8) (x0_7 : Int) (s0_8 : List UInt8) (x0_9 : Int) (s0_10 : List UInt8) (x1_0 : Int) (x1_1 : Int) (x1_2 : Int) (x1_3 : Int) (x1_4 : Int) (s1_5 : List UInt8) (x1_6 : Int) (s1_7 : List UInt8) (x1_8 : Int) (s1_9 : List UInt8) (x1_10 : Int) (s1_11 : List UInt8) : Option X113 := (d113 x0_0 x0_1 x0_2 x0_3 s0_4 x0_5 s0_6 x0_7 s0_8 x0_9 s0_10 x1_0 x1_1 x1_2 x1_3 x1_4 s1_5 x1_6 s1_7 x1_8 s1_9 x1_10 s1_11).val
noncomputable def sh113 (x0_0 : Int) (x0_1 : Int) (x0_2 : Int) (x0_3 : Int) (s0_4 : List UInt8) (x0_5 : Int) (s0_6 : List UInt8) (x0_7 : Int) (s0_8 : List UInt8) (x0_9 : Int) (s0_10 : List UInt8) (x1_0 : Int) (x1_1 : Int) (x1_2 : Int) (x1_3 : Int) (x1_4 : Int) (s1_5 : List UInt8) (x1_6 : Int) (s1_7 : List UInt8) (x1_8 : Int) (s1_9 : List UInt8) (x1_10 : Int) (s1_11 : List UInt8) (x : X113) : AV × List GB := ((.agg [(.int .i64 x0_0), (.int .i64 x.1), (.int .i64 x.2.1), (.int .i64 x.2.2.1), (.str x.2.2.2.1), (.int .i64 x.2.2.2.2.1), (.str x.2.2.2.2.2.1), (.int .i64 x.2.2.2.2.2.2.1), (.str x.2.2.2.2.2.2.2.1), (.int .i64 x.2.2.2.2.2.2.2.2.1), (.str x.2.2.2.2.2.2.2.2.2)]), [])
noncomputable def sd113 (x0_0 : Int) (x0_1 : Int) (x0_2 : Int) (x0_3 : Int) (s0_4 : List UInt8) (x0_5 : Int) (s0_6 : List UInt8) (x0_7 : Int) (s0_8 : List UInt8) (x0_9 : Int) (s0_10 : List UInt8) (x1_0 : Int) (x1_1 : Int) (x1_2 : Int) (x1_3 : Int) (x1_4 : Int) (s1_5 : List UInt8) (x1_6 : Int) (s1_7 : List UInt8) (x1_8 : Int) (s1_9 : List UInt8) (x1_10 : Int) (s1_11 : List UInt8) (x : X113) : Dt (AV × List GB) := .ret ((.agg [(.int .i64 x0_0), (.int .i64 x.1), (.int .i64 x.2.1), (.int .i64 x.2.2.1), (.str x.2.2.2.1), (.int .i64 x.2.2.2.2.1), (.str x.2.2.2.2.2.1), (.int .i64 x.2.2.2.2.2.2.1), (.str x.2.2.2.2.2.2.2.1), (.int .i64 x.2.2.2.2.2.2.2.2.1), (.str x.2.2.2.2.2.2.2.2.2)]), [])
noncomputable def s113 : FS := guardS [.agg [.i .i64, .i .i64, .i .i64, .i .i64, .s, .i .i64, .s, .i .i64, .s, .i .i64, .s], .agg [.i .i64, .i .u8, .i .i64, .i .i64, .i .i64, .s, .i .i64, .s, .i .i64, .s, .i .i64, .s]] [] fun xs H => Dt.opt (v113 (nth (nth xs 0).cells 0).intOf (nth (nth xs 0).cells 1).intOf (nth (nth xs 0).cells 2).intOf (nth (nth xs 0).cells 3).intOf (nth (nth xs 0).cells 4).strOf (nth (nth xs 0).cells 5).intOf (nth (nth xs 0).cells 6).strOf (nth (nth xs 0).cells 7).intOf (nth (nth xs 0).cells 8).strOf (nth (nth xs 0).cells 9).intOf (nth (nth xs 0).cells 10).strOf (nth (nth xs 1).cells 0).intOf (nth (nth xs 1).cells 1).intOf (nth (nth xs 1).cells 2).intOf (nth (nth xs 1).cells 3).intOf (nth (nth xs 1).cells 4).intOf (nth (nth xs 1).cells 5).strOf (nth (nth xs 1).cells 6).intOf (nth (nth xs 1).cells 7).strOf (nth (nth xs 1).cells 8).intOf (nth (nth xs 1).cells 9).strOf (nth (nth xs 1).cells 10).intOf (nth (nth xs 1).cells 11).strOf) (sd113 (nth (nth xs 0).cells 0).intOf (nth (nth xs 0).cells 1).intOf (nth (nth xs 0).cells 2).intOf (nth (nth xs 0).cells 3).intOf (nth (nth xs 0).cells 4).strOf (nth (nth xs 0).cells 5).intOf (nth (nth xs 0).cells 6).strOf (nth (nth xs 0).cells 7).intOf (nth (nth xs 0).cells 8).strOf (nth (nth xs 0).cells 9).intOf (nth (nth xs 0).cells 10).strOf (nth (nth xs 1).cells 0).intOf (nth (nth xs 1).cells 1).intOf (nth (nth xs 1).cells 2).intOf (nth (nth xs 1).cells 3).intOf (nth (nth xs 1).cells 4).intOf (nth (nth xs 1).cells 5).strOf (nth (nth xs 1).cells 6).intOf (nth (nth xs 1).cells 7).strOf (nth (nth xs 1).cells 8).intOf (nth (nth xs 1).cells 9).strOf (nth (nth xs 1).cells 10).intOf (nth (nth xs 1).cells 11).strOf)
theorem e113 (x0_0 : Int) (x0_1 : Int) (x0_2 : Int) (x0_3 : Int) (s0_4 : List UInt8) (x0_5 : Int) (s0_6 : List UInt8) (x0_7 : Int) (s0_8 : List UInt8) (x0_9 : Int) (s0_10 : List UInt8) (x1_0 : Int) (x1_1 : Int) (x1_2 : Int) (x1_3 : Int) (x1_4 : Int) (s1_5 : List UInt8) (x1_6 : Int) (s1_7 : List UInt8) (x1_8 : Int) (s1_9 : List UInt8) (x1_10 : Int) (s1_11 : List UInt8) (Q : AV × List GB → Prop) : wpN TA (cT cs113) lt113 un113 80 (evFunc TA 113 [(.agg [(.int .i64 x0_0), (.int .i64 x0_1), (.int .i64 x0_2), (.int .i64 x0_3), (.str s0_4), (.int .i64 x0_5), (.str s0_6), (.int .i64 x0_7), (.str s0_8), (.int .i64 x0_9), (.str s0_10)]), (.agg [(.int .i64 x1_0), (.int .u8 x1_1), (.int .i64 x1_2), (.int .i64 x1_3), (.int .i64 x1_4), (.str s1_5), (.int .i64 x1_6), (.str s1_7), (.int .i64 x1_8), (.str s1_9), (.int .i64 x1_10), (.str s1_11)])] []) Q = (d113 x0_0 x0_1 x0_2 x0_3 s0_4 x0_5 s0_6 x0_7 s0_8 x0_9 s0_10 x1_0 x1_1 x1_2 x1_3 x1_4 s1_5 x1_6 s1_7 x1_8 s1_9 x1_10 s1_11).wp (fun x => Q (sh113 x0_0 x0_1 x0_2 x0_3 s0_4 x0_5 s0_6 x0_7 s0_8 x0_9 s0_10 x1_0 x1_1 x1_2 x1_3 x1_4 s1_5 x1_6 s1_7 x1_8 s1_9 x1_10 s1_11 x)) := by kernel_rfl
theorem o113 (x0_0 : Int) (x0_1 : Int) (x0_2 : Int) (x0_3 : Int) (s0_4 : List UInt8) (x0_5 : Int) (s0_6 : List UInt8) (x0_7 : Int) (s0_8 : List UInt8) (x0_9 : Int) (s0_10 : List UInt8) (x1_0 : Int) (x1_1 : Int) (x1_2 : Int) (x1_3 : Int) (x1_4 : Int) (s1_5 : List UInt8) (x1_6 : Int) (s1_7 : List UInt8) (x1_8 : Int) (s1_9 : List UInt8) (x1_10 : Int) (s1_11 : List UInt8) : (d113 x0_0 x0_1 x0_2 x0_3 s0_4 x0_5 s0_6 x0_7 s0_8 x0_9 s0_10 x1_0 x1_1 x1_2 x1_3 x1_4 s1_5 x1_6 s1_7 x1_8 s1_9 x1_10 s1_11).obs := by
  unfold d113
  repeat' (first | exact trivial | apply And.intro)
theorem k113 : FRight TA 113 s113 := fright (D := fun xs H => d113 (nth (nth xs 0).cells 0).intOf (nth (nth xs 0).cells 1).intOf (nth (nth xs 0).cells 2).intOf (nth (nth xs 0).cells 3).intOf (nth (nth xs 0).cells 4).strOf (nth (nth xs 0).cells 5).intOf (nth (nth xs 0).cells 6).strOf (nth (nth xs 0).cells 7).intOf (nth (nth xs 0).cells 8).strOf (nth (nth xs 0).cells 9).intOf (nth (nth xs 0).cells 10).strOf (nth (nth xs 1).cells 0).intOf (nth (nth xs 1).cells 1).intOf (nth (nth xs 1).cells 2).intOf (nth (nth xs 1).cells 3).intOf (nth (nth xs 1).cells 4).intOf (nth (nth xs 1).cells 5).strOf (nth (nth xs 1).cells 6).intOf (nth (nth xs 1).cells 7).strOf (nth (nth xs 1).cells 8).intOf (nth (nth xs 1).cells 9).strOf (nth (nth xs 1).cells 10).intOf (nth (nth xs 1).cells 11).strOf) (sh := fun xs H => sh113 (nth (nth xs 0).cells 0).intOf (nth (nth xs 0).cells 1).intOf (nth (nth xs 0).cells 2).intOf (nth (nth xs 0).cells 3).intOf (nth (nth xs 0).cells 4).strOf (nth (nth xs 0).cells 5).intOf (nth (nth xs 0).cells 6).strOf (nth (nth xs 0).cells 7).intOf (nth (nth xs 0).cells 8).strOf (nth (nth xs 0).cells 9).intOf (nth (nth xs 0).cells 10).strOf (nth (nth xs 1).cells 0).intOf (nth (nth xs 1).cells 1).intOf (nth (nth xs 1).cells 2).intOf (nth (nth xs 1).cells 3).intOf (nth (nth xs 1).cells 4).intOf (nth (nth xs 1).cells 5).strOf (nth (nth xs 1).cells 6).intOf (nth (nth xs 1).cells 7).strOf (nth (nth xs 1).cells 8).intOf (nth (nth xs 1).cells 9).strOf (nth (nth xs 1).cells 10).intOf (nth (nth xs 1).cells 11).strOf) cr113 (fun xs H Q => e113 (nth (nth xs 0).cells 0).intOf (nth (nth xs 0).cells 1).intOf (nth (nth xs 0).cells 2).intOf (nth (nth xs 0).cells 3).intOf (nth (nth xs 0).cells 4).strOf (nth (nth xs 0).cells 5).intOf (nth (nth xs 0).cells 6).strOf (nth (nth xs 0).cells 7).intOf (nth (nth xs 0).cells 8).strOf (nth (nth xs 0).cells 9).intOf (nth (nth xs 0).cells 10).strOf (nth (nth xs 1).cells 0).intOf (nth (nth xs 1).cells 1).intOf (nth (nth xs 1).cells 2).intOf (nth (nth xs 1).cells 3).intOf (nth (nth xs 1).cells 4).intOf (nth (nth xs 1).cells 5).strOf (nth (nth xs 1).cells 6).intOf (nth (nth xs 1).cells 7).strOf (nth (nth xs 1).cells 8).intOf (nth (nth xs 1).cells 9).strOf (nth (nth xs 1).cells 10).intOf (nth (nth xs 1).cells 11).strOf Q) (fun xs H => o113 (nth (nth xs 0).cells 0).intOf (nth (nth xs 0).cells 1).intOf (nth (nth xs 0).cells 2).intOf (nth (nth xs 0).cells 3).intOf (nth (nth xs 0).cells 4).strOf (nth (nth xs 0).cells 5).intOf (nth (nth xs 0).cells 6).strOf (nth (nth xs 0).cells 7).intOf (nth (nth xs 0).cells 8).strOf (nth (nth xs 0).cells 9).intOf (nth (nth xs 0).cells 10).strOf (nth (nth xs 1).cells 0).intOf (nth (nth xs 1).cells 1).intOf (nth (nth xs 1).cells 2).intOf (nth (nth xs 1).cells 3).intOf (nth (nth xs 1).cells 4).intOf (nth (nth xs 1).cells 5).strOf (nth (nth xs 1).cells 6).intOf (nth (nth xs 1).cells 7).strOf (nth (nth xs 1).cells 8).intOf (nth (nth xs 1).cells 9).strOf (nth (nth xs 1).cells 10).intOf (nth (nth xs 1).cells 11).strOf) (by intro xs H x r h; exact (Option.some.inj h).symm)
/-! vedette/event.Apply -/
noncomputable def un68 : Nat → Bool := fun _ => false
noncomputable def cs68 : List (Nat × FS) := [(109, s109), (25, s25), (88, s88), (113, s113)]
theorem cr68 : CRight TA (cT cs68) := cT_right (cT_cons k109 (cT_cons k25 (cT_cons k88 (cT_cons k113 cT_nil))))
noncomputable def lt68 : LT := fun rid st => .fail
abbrev X68 : Type := Bool × (List (List AV)) × Bool
noncomputable def d68 (n0 : Bool) (r0 : List (List AV)) (x1_0 : Int) (x1_1 : Int) (x1_2 : Int) (x1_3 : Int) (x1_4 : Int) (x1_5 : Int) (s1_6 : List UInt8) (x1_7 : Int) (s1_8 : List UInt8) (x1_9 : Int) (s1_10 : List UInt8) (x1_11 : Int) (s1_12 : List UInt8) (x1_13 : Int) (x1_14 : Int) (x1_15 : Int) (x1_16 : Int) (x1_17 : Int) (s1_18 : List UInt8) (x1_19 : Int) (s1_20 : List UInt8) (x1_21 : Int) (s1_22 : List UInt8) (x1_23 : Int) (s1_24 : List UInt8) : Dt X68 :=
  Dt.opt (v109 n0 r0 x1_1) fun y1 =>
  Dt.opt (v25 x1_0 x1_1 x1_2 x1_3 x1_4 x1_5 s1_6 x1_7 s1_8 x1_9 s1_10 x1_11 s1_12 x1_13 x1_14 x1_15 x1_16 x1_17 s1_18 x1_19 s1_20 x1_21 s1_22 x1_23 s1_24) fun y2 =>
  .br (!y2)
  (Dt.opt (v88 n0 r0) fun y3 =>
    .ret (y3.1, y3.2, false))
  (.br (y1.2 == (x1_0 == 1))
    (Dt.opt (v88 n0 r0) fun y4 =>
      .ret (y4.1, y4.2, false))
    (Dt.opt (v88 n0 r0) fun y5 =>
      .br (y5.2.all (fun r => r.all noSl))
      (.br y5.1
        (.br (x1_0 == 1)
          (.br (((((y1.1 == 0) && true) && true) && true) && true)
            (.ret (false, [[(.int .i64 x1_2), (.int .i64 x1_3), (.int .i64 x1_4), (.int .i64 x1_5), (.str s1_6), (.int .i64 x1_7), (.str s1_8), (.int .i64 x1_9), (.str s1_10), (.int .i64 x1_11), (.str s1_12)]], true)) (.fail))
          (.br (x1_0 == 2)
            (.br (((decide (0 ≤ y1.1)) && (decide (y1.1 < 0))) && true)
              (.br (epOk [(.i .i64), (.i .i64), (.i .i64), (.i .i64), .s, (.i .i64), .s, (.i .i64), .s, (.i .i64), .s] (([] : List (List AV)).getD y1.1.toNat []) 0)
                (Dt.opt (v113 ((nth (([] : List (List AV)).getD y1.1.toNat []) 0).intOf) ((nth (([] : List (List AV)).getD y1.1.toNat []) 1).intOf) ((nth (([] : List (List AV)).getD y1.1.toNat []) 2).intOf) ((nth (([] : List (List AV)).getD y1.1.toNat []) 3).intOf) ((nth (([] : List (List AV)).getD y1.1.toNat []) 4).strOf) ((nth (([] : List (List AV)).getD y1.1.toNat []) 5).intOf) ((nth (([] : List (List AV)).getD y1.1.toNat []) 6).strOf) ((nth (([] : List (List AV)).getD y1.1.toNat []) 7).intOf) ((nth (([] : List (List AV)).getD y1.1.toNat []) 8).strOf) ((nth (([] : List (List AV)).getD y1.1.toNat []) 9).intOf) ((nth (([] : List (List AV)).getD y1.1.toNat []) 10).strOf) x1_13 x1_14 x1_15 x1_16 x1_17 s1_18 x1_19 s1_20 x1_21 s1_22 x1_23 s1_24) fun y6 =>
                  .br (((decide (0 ≤ y1.1)) && (decide (y1.1 < 0))) && true)
                  (.fail) (.fail)) (.fail)) (.fail)) (.fail)))
        (.br (x1_0 == 1)
          (.br (((((((((y5.2.flatten.map AV.strip).length == y5.2.length * 11) && true) && true) && true) && true) && ((y5.2.flatten.map AV.strip).all noSl)) && true) && true)
            (.br (((decide (0 ≤ y1.1)) && (decide (y1.1 ≤ (y5.2.length : Int)))) && (decide (y5.2.length ≤ 268435456)))
              (.br (((((y5.2.flatten.map AV.strip).take (y1.1.toNat * 11) ++ ([(.int .i64 x1_2), (.int .i64 x1_3), (.int .i64 x1_4), (.int .i64 x1_5), (.str s1_6), (.int .i64 x1_7), (.str s1_8), (.int .i64 x1_9), (.str s1_10), (.int .i64 x1_11), (.str s1_12)] : List AV) ++ (y5.2.flatten.map AV.strip).drop (y1.1.toNat * 11)).length == (y5.2.length + 1) * 11) && true) && (((y5.2.flatten.map AV.strip).take (y1.1.toNat * 11) ++ ([(.int .i64 x1_2), (.int .i64 x1_3), (.int .i64 x1_4), (.int .i64 x1_5), (.str s1_6), (.int .i64 x1_7), (.str s1_8), (.int .i64 x1_9), (.str s1_10), (.int .i64 x1_11), (.str s1_12)] : List AV) ++ (y5.2.flatten.map AV.strip).drop (y1.1.toNat * 11)).all AV.pure1))
                (.ret (false, (chunk 11 (y5.2.length + 1) ((y5.2.flatten.map AV.strip).take (y1.1.toNat * 11) ++ ([(.int .i64 x1_2), (.int .i64 x1_3), (.int .i64 x1_4), (.int .i64 x1_5), (.str s1_6), (.int .i64 x1_7), (.str s1_8), (.int .i64 x1_9), (.str s1_10), (.int .i64 x1_11), (.str s1_12)] : List AV) ++ (y5.2.flatten.map AV.strip).drop (y1.1.toNat * 11))), true)) (.fail)) (.fail)) (.fail))
          (.br (x1_0 == 2)
            (.br (((decide (0 ≤ y1.1)) && (decide (y1.1 < y5.2.length))) && true)
              (.br (epOk [(.i .i64), (.i .i64), (.i .i64), (.i .i64), .s, (.i .i64), .s, (.i .i64), .s, (.i .i64), .s] (y5.2.flatten.map AV.strip) (0 + y1.1.toNat * 11))
                (Dt.opt (v113 ((nth (y5.2.flatten.map AV.strip) (0 + y1.1.toNat * 11)).intOf) ((nth (y5.2.flatten.map AV.strip) ((0 + y1.1.toNat * 11) + 1)).intOf) ((nth (y5.2.flatten.map AV.strip) ((0 + y1.1.toNat * 11) + 2)).intOf) ((nth (y5.2.flatten.map AV.strip) ((0 + y1.1.toNat * 11) + 3)).intOf) ((nth (y5.2.flatten.map AV.strip) ((0 + y1.1.toNat * 11) + 4)).strOf) ((nth (y5.2.flatten.map AV.strip) ((0 + y1.1.toNat * 11) + 5)).intOf) ((nth (y5.2.flatten.map AV.strip) ((0 + y1.1.toNat * 11) + 6)).strOf) ((nth (y5.2.flatten.map AV.strip) ((0 + y1.1.toNat * 11) + 7)).intOf) ((nth (y5.2.flatten.map AV.strip) ((0 + y1.1.toNat * 11) + 8)).strOf) ((nth (y5.2.flatten.map AV.strip) ((0 + y1.1.toNat * 11) + 9)).intOf) ((nth (y5.2.flatten.map AV.strip) ((0 + y1.1.toNat * 11) + 10)).strOf) x1_13 x1_14 x1_15 x1_16 x1_17 s1_18 x1_19 s1_20 x1_21 s1_22 x1_23 s1_24) fun y7 =>
                  .br (((decide (0 ≤ y1.1)) && (decide (y1.1 < y5.2.length))) && true)
                  (.br (decide ((0 + y1.1.toNat * 11) + 11 ≤ (y5.2.flatten.map AV.strip).length))
                    (.br ((((splice (y5.2.flatten.map AV.strip) (0 + y1.1.toNat * 11) [(.int .i64 ((nth (y5.2.flatten.map AV.strip) (0 + y1.1.toNat * 11)).intOf)), (.int .i64 y7.1), (.int .i64 y7.2.1), (.int .i64 y7.2.2.1), (.str y7.2.2.2.1), (.int .i64 y7.2.2.2.2.1), (.str y7.2.2.2.2.2.1), (.int .i64 y7.2.2.2.2.2.2.1), (.str y7.2.2.2.2.2.2.2.1), (.int .i64 y7.2.2.2.2.2.2.2.2.1), (.str y7.2.2.2.2.2.2.2.2.2)]).length == y5.2.length * 11) && true) && ((splice (y5.2.flatten.map AV.strip) (0 + y1.1.toNat * 11) [(.int .i64 ((nth (y5.2.flatten.map AV.strip) (0 + y1.1.toNat * 11)).intOf)), (.int .i64 y7.1), (.int .i64 y7.2.1), (.int .i64 y7.2.2.1), (.str y7.2.2.2.1), (.int .i64 y7.2.2.2.2.1), (.str y7.2.2.2.2.2.1), (.int .i64 y7.2.2.2.2.2.2.1), (.str y7.2.2.2.2.2.2.2.1), (.int .i64 y7.2.2.2.2.2.2.2.2.1), (.str y7.2.2.2.2.2.2.2.2.2)]).all AV.pure1))
                      (.ret (false, (chunk 11 y5.2.length (splice (y5.2.flatten.map AV.strip) (0 + y1.1.toNat * 11) [(.int .i64 ((nth (y5.2.flatten.map AV.strip) (0 + y1.1.toNat * 11)).intOf)), (.int .i64 y7.1), (.int .i64 y7.2.1), (.int .i64 y7.2.2.1), (.str y7.2.2.2.1), (.int .i64 y7.2.2.2.2.1), (.str y7.2.2.2.2.2.1), (.int .i64 y7.2.2.2.2.2.2.1), (.str y7.2.2.2.2.2.2.2.1), (.int .i64 y7.2.2.2.2.2.2.2.2.1), (.str y7.2.2.2.2.2.2.2.2.2)])), true)) (.fail)) (.fail)) (.fail)) (.fail)) (.fail))
            (.br ((((((y5.2.flatten.map AV.strip).length == y5.2.length * 11) && true) && ((wrapF .i64 (y1.1 + 1)) == (y1.1 + 1))) && ((y5.2.flatten.map AV.strip).all noSl)) && true)
              (.br (((decide (0 ≤ y1.1)) && (decide (y1.1 < (y5.2.length : Int)))) && (decide (y5.2.length ≤ 268435456)))
                (.br (((((y5.2.flatten.map AV.strip).take (y1.1.toNat * 11) ++ (y5.2.flatten.map AV.strip).drop ((y1.1.toNat + 1) * 11)).length == (y5.2.length - 1) * 11) && true) && (((y5.2.flatten.map AV.strip).take (y1.1.toNat * 11) ++ (y5.2.flatten.map AV.strip).drop ((y1.1.toNat + 1) * 11)).all AV.pure1))
                  (.ret (false, (chunk 11 (y5.2.length - 1) ((y5.2.flatten.map AV.strip).take (y1.1.toNat * 11) ++ (y5.2.flatten.map AV.strip).drop ((y1.1.toNat + 1) * 11))), true)) (.fail)) (.fail)) (.fail))))) (.fail)))
noncomputable def v68 (n0 : Bool) (r0 : List (List AV)) (x1_0 : Int) (x1_1 : Int) (x1_2 : Int) (x1_3 : Int) (x1_4 : Int) (x1_5 : Int) (s1_6 : List UInt8) (x1_7 : Int) (s1_8 : List UInt8) (x1_9 : Int) (s1_10 : List UInt8) (x1_11 : Int) (s1_12 : List UInt8) (x1_13 : Int) (x1_14 : Int) (x1_15 : Int) (x1_16 : Int) (x1_17 : Int) (s1_18 : List UInt8) (x1_19 : Int) (s1_20 : List UInt8) (x1_21 : Int) (s1_22 : List UInt8) (x1_23 : Int) (s1_24 : List UInt8) : Option X68 := (d68 n0 r0 x1_0 x1_1 x1_2 x1_3 x1_4 x1_5 s1_6 x1_7 s1_8 x1_9 s1_10 x1_11 s1_12 x1_13 x1_14 x1_15 x1_16 x1_17 s1_18 x1_19 s1_20 x1_21 s1_22 x1_23 s1_24).val
noncomputable def sh68 (n0 : Bool) (r0 : List (List AV)) (x1_0 : Int) (x1_1 : Int) (x1_2 : Int) (x1_3 : Int) (x1_4 : Int) (x1_5 : Int) (s1_6 : List UInt8) (x1_7 : Int) (s1_8 : List UInt8) (x1_9 : Int) (s1_10 : List UInt8) (x1_11 : Int) (s1_12 : List UInt8) (x1_13 : Int) (x1_14 : Int) (x1_15 : Int) (x1_16 : Int) (x1_17 : Int) (s1_18 : List UInt8) (x1_19 : Int) (s1_20 : List UInt8) (x1_21 : Int) (s1_22 : List UInt8) (x1_23 : Int) (s1_24 : List UInt8) (x : X68) : AV × List GB := ((.tup [(.sl 11 x.1 x.2.1 .no), (.bool x.2.2)]), [])
noncomputable def sd68 (n0 : Bool) (r0 : List (List AV)) (x1_0 : Int) (x1_1 : Int) (x1_2 : Int) (x1_3 : Int) (x1_4 : Int) (x1_5 : Int) (s1_6 : List UInt8) (x1_7 : Int) (s1_8 : List UInt8) (x1_9 : Int) (s1_10 : List UInt8) (x1_11 : Int) (s1_12 : List UInt8) (x1_13 : Int) (x1_14 : Int) (x1_15 : Int) (x1_16 : Int) (x1_17 : Int) (s1_18 : List UInt8) (x1_19 : Int) (s1_20 : List UInt8) (x1_21 : Int) (s1_22 : List UInt8) (x1_23 : Int) (s1_24 : List UInt8) (x : X68) : Dt (AV × List GB) := .ret ((.tup [(.sl 11 x.1 x.2.1 .no), (.bool x.2.2)]), [])
noncomputable def s68 : FS := guardS [.c (.sl 11 .no), .agg [.i .i64, .i .i64, .i .i64, .i .i64, .i .i64, .i .i64, .s, .i .i64, .s, .i .i64, .s, .i .i64, .s, .i .i64, .i .u8, .i .i64, .i .i64, .i .i64, .s, .i .i64, .s, .i .i64, .s, .i .i64, .s]] [] fun xs H => Dt.opt (v68 (nth xs 0).slNil (nth xs 0).slRows (nth (nth xs 1).cells 0).intOf (nth (nth xs 1).cells 1).intOf (nth (nth xs 1).cells 2).intOf (nth (nth xs 1).cells 3).intOf (nth (nth xs 1).cells 4).intOf (nth (nth xs 1).cells 5).intOf (nth (nth xs 1).cells 6).strOf (nth (nth xs 1).cells 7).intOf (nth (nth xs 1).cells 8).strOf (nth (nth xs 1).cells 9).intOf (nth (nth xs 1).cells 10).strOf (nth (nth xs 1).cells 11).intOf (nth (nth xs 1).cells 12).strOf (nth (nth xs 1).cells 13).intOf (nth (nth xs 1).cells 14).intOf (nth (nth xs 1).cells 15).intOf (nth (nth xs 1).cells 16).intOf (nth (nth xs 1).cells 17).intOf (nth (nth xs 1).cells 18).strOf (nth (nth xs 1).cells 19).intOf (nth (nth xs 1).cells 20).strOf (nth (nth xs 1).cells 21).intOf (nth (nth xs 1).cells 22).strOf (nth (nth xs 1).cells 23).intOf (nth (nth xs 1).cells 24).strOf) (sd68 (nth xs 0).slNil (nth xs 0).slRows (nth (nth xs 1).cells 0).intOf (nth (nth xs 1).cells 1).intOf (nth (nth xs 1).cells 2).intOf (nth (nth xs 1).cells 3).intOf (nth (nth xs 1).cells 4).intOf (nth (nth xs 1).cells 5).intOf (nth (nth xs 1).cells 6).strOf (nth (nth xs 1).cells 7).intOf (nth (nth xs 1).cells 8).strOf (nth (nth xs 1).cells 9).intOf (nth (nth xs 1).cells 10).strOf (nth (nth xs 1).cells 11).intOf (nth (nth xs 1).cells 12).strOf (nth (nth xs 1).cells 13).intOf (nth (nth xs 1).cells 14).intOf (nth (nth xs 1).cells 15).intOf (nth (nth xs 1).cells 16).intOf (nth (nth xs 1).cells 17).intOf (nth (nth xs 1).cells 18).strOf (nth (nth xs 1).cells 19).intOf (nth (nth xs 1).cells 20).strOf (nth (nth xs 1).cells 21).intOf (nth (nth xs 1).cells 22).strOf (nth (nth xs 1).cells 23).intOf (nth (nth xs 1).cells 24).strOf)
theorem e68 (n0 : Bool) (r0 : List (List AV)) (x1_0 : Int) (x1_1 : Int) (x1_2 : Int) (x1_3 : Int) (x1_4 : Int) (x1_5 : Int) (s1_6 : List UInt8) (x1_7 : Int) (s1_8 : List UInt8) (x1_9 : Int) (s1_10 : List UInt8) (x1_11 : Int) (s1_12 : List UInt8) (x1_13 : Int) (x1_14 : Int) (x1_15 : Int) (x1_16 : Int) (x1_17 : Int) (s1_18 : List UInt8) (x1_19 : Int) (s1_20 : List UInt8) (x1_21 : Int) (s1_22 : List UInt8) (x1_23 : Int) (s1_24 : List UInt8) (Q : AV × List GB → Prop) : wpN TA (cT cs68) lt68 un68 80 (evFunc TA 68 [(.sl 11 n0 r0 .no), (.agg [(.int .i64 x1_0), (.int .i64 x1_1), (.int .i64 x1_2), (.int .i64 x1_3), (.int .i64 x1_4), (.int .i64 x1_5), (.str s1_6), (.int .i64 x1_7), (.str s1_8), (.int .i64 x1_9), (.str s1_10), (.int .i64 x1_11), (.str s1_12), (.int .i64 x1_13), (.int .u8 x1_14), (.int .i64 x1_15), (.int .i64 x1_16), (.int .i64 x1_17), (.str s1_18), (.int .i64 x1_19), (.str s1_20), (.int .i64 x1_21), (.str s1_22), (.int .i64 x1_23), (.str s1_24)])] []) Q = (d68 n0 r0 x1_0 x1_1 x1_2 x1_3 x1_4 x1_5 s1_6 x1_7 s1_8 x1_9 s1_10 x1_11 s1_12 x1_13 x1_14 x1_15 x1_16 x1_17 s1_18 x1_19 s1_20 x1_21 s1_22 x1_23 s1_24).wp (fun x => Q (sh68 n0 r0 x1_0 x1_1 x1_2 x1_3 x1_4 x1_5 s1_6 x1_7 s1_8 x1_9 s1_10 x1_11 s1_12 x1_13 x1_14 x1_15 x1_16 x1_17 s1_18 x1_19 s1_20 x1_21 s1_22 x1_23 s1_24 x)) := by kernel_rfl
theorem o68 (n0 : Bool) (r0 : List (List AV)) (x1_0 : Int) (x1_1 : Int) (x1_2 : Int) (x1_3 : Int) (x1_4 : Int) (x1_5 : Int) (s1_6 : List UInt8) (x1_7 : Int) (s1_8 : List UInt8) (x1_9 : Int) (s1_10 : List UInt8) (x1_11 : Int) (s1_12 : List UInt8) (x1_13 : Int) (x1_14 : Int) (x1_15 : Int) (x1_16 : Int) (x1_17 : Int) (s1_18 : List UInt8) (x1_19 : Int) (s1_20 : List UInt8) (x1_21 : Int) (s1_22 : List UInt8) (x1_23 : Int) (s1_24 : List UInt8) : (d68 n0 r0 x1_0 x1_1 x1_2 x1_3 x1_4 x1_5 s1_6 x1_7 s1_8 x1_9 s1_10 x1_11 s1_12 x1_13 x1_14 x1_15 x1_16 x1_17 s1_18 x1_19 s1_20 x1_21 s1_22 x1_23 s1_24).obs := by
  unfold d68
  repeat' (first | exact trivial | apply And.intro)
theorem k68 : FRight TA 68 s68 := fright (D := fun xs H => d68 (nth xs 0).slNil (nth xs 0).slRows (nth (nth xs 1).cells 0).intOf (nth (nth xs 1).cells 1).intOf (nth (nth xs 1).cells 2).intOf (nth (nth xs 1).cells 3).intOf (nth (nth xs 1).cells 4).intOf (nth (nth xs 1).cells 5).intOf (nth (nth xs 1).cells 6).strOf (nth (nth xs 1).cells 7).intOf (nth (nth xs 1).cells 8).strOf (nth (nth xs 1).cells 9).intOf (nth (nth xs 1).cells 10).strOf (nth (nth xs 1).cells 11).intOf (nth (nth xs 1).cells 12).strOf (nth (nth xs 1).cells 13).intOf (nth (nth xs 1).cells 14).intOf (nth (nth xs 1).cells 15).intOf (nth (nth xs 1).cells 16).intOf (nth (nth xs 1).cells 17).intOf (nth (nth xs 1).cells 18).strOf (nth (nth xs 1).cells 19).intOf (nth (nth xs 1).cells 20).strOf (nth (nth xs 1).cells 21).intOf (nth (nth xs 1).cells 22).strOf (nth (nth xs 1).cells 23).intOf (nth (nth xs 1).cells 24).strOf) (sh := fun xs H => sh68 (nth xs 0).slNil (nth xs 0).slRows (nth (nth xs 1).cells 0).intOf (nth (nth xs 1).cells 1).intOf (nth (nth xs 1).cells 2).intOf (nth (nth xs 1).cells 3).intOf (nth (nth xs 1).cells 4).intOf (nth (nth xs 1).cells 5).intOf (nth (nth xs 1).cells 6).strOf (nth (nth xs 1).cells 7).intOf (nth (nth xs 1).cells 8).strOf (nth (nth xs 1).cells 9).intOf (nth (nth xs 1).cells 10).strOf (nth (nth xs 1).cells 11).intOf (nth (nth xs 1).cells 12).strOf (nth (nth xs 1).cells 13).intOf (nth (nth xs 1).cells 14).intOf (nth (nth xs 1).cells 15).intOf (nth (nth xs 1).cells 16).intOf (nth (nth xs 1).cells 17).intOf (nth (nth xs 1).cells 18).strOf (nth (nth xs 1).cells 19).intOf (nth (nth xs 1).cells 20).strOf (nth (nth xs 1).cells 21).intOf (nth (nth xs 1).cells 22).strOf (nth (nth xs 1).cells 23).intOf (nth (nth xs 1).cells 24).strOf) cr68 (fun xs H Q => e68 (nth xs 0).slNil (nth xs 0).slRows (nth (nth xs 1).cells 0).intOf (nth (nth xs 1).cells 1).intOf (nth (nth xs 1).cells 2).intOf (nth (nth xs 1).cells 3).intOf (nth (nth xs 1).cells 4).intOf (nth (nth xs 1).cells 5).intOf (nth (nth xs 1).cells 6).strOf (nth (nth xs 1).cells 7).intOf (nth (nth xs 1).cells 8).strOf (nth (nth xs 1).cells 9).intOf (nth (nth xs 1).cells 10).strOf (nth (nth xs 1).cells 11).intOf (nth (nth xs 1).cells 12).strOf (nth (nth xs 1).cells 13).intOf (nth (nth xs 1).cells 14).intOf (nth (nth xs 1).cells 15).intOf (nth (nth xs 1).cells 16).intOf (nth (nth xs 1).cells 17).intOf (nth (nth xs 1).cells 18).strOf (nth (nth xs 1).cells 19).intOf (nth (nth xs 1).cells 20).strOf (nth (nth xs 1).cells 21).intOf (nth (nth xs 1).cells 22).strOf (nth (nth xs 1).cells 23).intOf (nth (nth xs 1).cells 24).strOf Q) (fun xs H => o68 (nth xs 0).slNil (nth xs 0).slRows (nth (nth xs 1).cells 0).intOf (nth (nth xs 1).cells 1).intOf (nth (nth xs 1).cells 2).intOf (nth (nth xs 1).cells 3).intOf (nth (nth xs 1).cells 4).intOf (nth (nth xs 1).cells 5).intOf (nth (nth xs 1).cells 6).strOf (nth (nth xs 1).cells 7).intOf (nth (nth xs 1).cells 8).strOf (nth (nth xs 1).cells 9).intOf (nth (nth xs 1).cells 10).strOf (nth (nth xs 1).cells 11).intOf (nth (nth xs 1).cells 12).strOf (nth (nth xs 1).cells 13).intOf (nth (nth xs 1).cells 14).intOf (nth (nth xs 1).cells 15).intOf (nth (nth xs 1).cells 16).intOf (nth (nth xs 1).cells 17).intOf (nth (nth xs 1).cells 18).strOf (nth (nth xs 1).cells 19).intOf (nth (nth xs 1).cells 20).strOf (nth (nth xs 1).cells 21).intOf (nth (nth xs 1).cells 22).strOf (nth (nth xs 1).cells 23).intOf (nth (nth xs 1).cells 24).strOf) (by intro xs H x r h; exact (Option.some.inj h).symm)
/-! vedette/event.Fold -/
noncomputable def un26 : Nat → Bool := fun _ => false
noncomputable def cs26 : List (Nat × FS) := [(88, s88), (68, s68)]
theorem cr26 : CRight TA (cT cs26) := cT_right (cT_cons k88 (cT_cons k68 cT_nil))
noncomputable def c26_3 : Code := cB (cB (cR (cL (cR (cR (cB (cR (bodyOf Try.f26))))))))
abbrev P26_3 : Type := Bool × (List (List AV)) × Bool × Int
abbrev Y26_3 : Type := Bool × (List (List AV)) × Bool
noncomputable def d26_3 (n0 : Bool) (r0 : List (List AV)) (n12 : Bool) (r12 : List (List AV)) (x13 : Int) (n6 : Bool) (r6 : List (List AV)) (b7 : Bool) (x14 : Int) : Dt (P26_3 ⊕ Y26_3) :=
  .br (decide (x14 < x13))
  (.br (((decide (0 ≤ x14)) && (decide (x14 < (r12.length : Int)))) && true)
    (.br (epOk [(.i .i64), (.i .i64), (.i .i64), (.i .i64), (.i .i64), (.i .i64), .s, (.i .i64), .s, (.i .i64), .s, (.i .i64), .s, (.i .i64), (.i .u8), (.i .i64), (.i .i64), (.i .i64), .s, (.i .i64), .s, (.i .i64), .s, (.i .i64), .s] (r12.getD x14.toNat []) 0)
      (Dt.opt (v68 n6 r6 ((nth (r12.getD x14.toNat []) 0).intOf) ((nth (r12.getD x14.toNat []) 1).intOf) ((nth (r12.getD x14.toNat []) 2).intOf) ((nth (r12.getD x14.toNat []) 3).intOf) ((nth (r12.getD x14.toNat []) 4).intOf) ((nth (r12.getD x14.toNat []) 5).intOf) ((nth (r12.getD x14.toNat []) 6).strOf) ((nth (r12.getD x14.toNat []) 7).intOf) ((nth (r12.getD x14.toNat []) 8).strOf) ((nth (r12.getD x14.toNat []) 9).intOf) ((nth (r12.getD x14.toNat []) 10).strOf) ((nth (r12.getD x14.toNat []) 11).intOf) ((nth (r12.getD x14.toNat []) 12).strOf) ((nth (r12.getD x14.toNat []) 13).intOf) ((nth (r12.getD x14.toNat []) 14).intOf) ((nth (r12.getD x14.toNat []) 15).intOf) ((nth (r12.getD x14.toNat []) 16).intOf) ((nth (r12.getD x14.toNat []) 17).intOf) ((nth (r12.getD x14.toNat []) 18).strOf) ((nth (r12.getD x14.toNat []) 19).intOf) ((nth (r12.getD x14.toNat []) 20).strOf) ((nth (r12.getD x14.toNat []) 21).intOf) ((nth (r12.getD x14.toNat []) 22).strOf) ((nth (r12.getD x14.toNat []) 23).intOf) ((nth (r12.getD x14.toNat []) 24).strOf)) fun y2 =>
        .br (!y2.2.2)
        (.ret (.inr (y2.1, y2.2.1, y2.2.2)))
        (.ret (.inl (y2.1, y2.2.1, y2.2.2, (wrapF .i64 (x14 + 1)))))) (.fail)) (.fail))
  (.ret (.inr (n6, r6, b7)))
noncomputable def w26_3 (n0 : Bool) (r0 : List (List AV)) (n6 : Bool) (r6 : List (List AV)) (b7 : Bool) (n12 : Bool) (r12 : List (List AV)) (x13 : Int) (x14 : Int) : Option Y26_3 := loopV (fun p : P26_3 => d26_3 n0 r0 n12 r12 x13 p.1 p.2.1 p.2.2.1 p.2.2.2) (n6, r6, b7, x14)
noncomputable def hd26_3 (n0 : Bool) (r0 : List (List AV)) (n6 : Bool) (r6 : List (List AV)) (b7 : Bool) (n12 : Bool) (r12 : List (List AV)) (x13 : Int) (x14 : Int) : St := (stAt 32 false [(0, (.sl 11 n0 r0 .no)), (6, (.sl 11 n6 r6 .no)), (7, (.bool b7)), (12, (.sl 25 n12 r12 .no)), (13, (.int .i64 x13)), (14, (.int .i64 x14))] [] [])
noncomputable def ex26_3 (n0 : Bool) (r0 : List (List AV)) (n12 : Bool) (r12 : List (List AV)) (x13 : Int) (x : Y26_3) : Ex × St := ((.exit 0), (stAt 32 false [(0, (.sl 11 n0 r0 .no)), (6, (.sl 11 x.1 x.2.1 .no)), (7, (.bool x.2.2))] [] []))
noncomputable def xd26_3 (n0 : Bool) (r0 : List (List AV)) (n12 : Bool) (r12 : List (List AV)) (x13 : Int) (x : Y26_3) : Dt (Ex × St) := .ret ((.exit 0), (stAt 32 false [(0, (.sl 11 n0 r0 .no)), (6, (.sl 11 x.1 x.2.1 .no)), (7, (.bool x.2.2))] [] []))
noncomputable def lt26 : LT := fun rid st => bif Nat.beq rid 3 then Dt.opt (w26_3 (nth st.tm 0).slNil (nth st.tm 0).slRows (nth st.tm 6).slNil (nth st.tm 6).slRows (nth st.tm 7).boolOf (nth st.tm 12).slNil (nth st.tm 12).slRows (nth st.tm 13).intOf (nth st.tm 14).intOf) (xd26_3 (nth st.tm 0).slNil (nth st.tm 0).slRows (nth st.tm 12).slNil (nth st.tm 12).slRows (nth st.tm 13).intOf) else .fail
theorem r26_3 (n0 : Bool) (r0 : List (List AV)) (n12 : Bool) (r12 : List (List AV)) (x13 : Int) (p : P26_3) (Q : Ex × St → Prop) : wpN TA (cT cs26) lt26 un26 80 (roundR TA 26 3 c26_3 (hd26_3 n0 r0 p.1 p.2.1 p.2.2.1 n12 r12 x13 p.2.2.2)) Q = (d26_3 n0 r0 n12 r12 x13 p.1 p.2.1 p.2.2.1 p.2.2.2).wp (fun o => Sum.rec (fun p => Q (.normal, hd26_3 n0 r0 p.1 p.2.1 p.2.2.1 n12 r12 x13 p.2.2.2)) (fun x => Q (ex26_3 n0 r0 n12 r12 x13 x)) o) := by kernel_rfl
theorem ob26_3 (n0 : Bool) (r0 : List (List AV)) (n12 : Bool) (r12 : List (List AV)) (x13 : Int) (p : P26_3) : (d26_3 n0 r0 n12 r12 x13 p.1 p.2.1 p.2.2.1 p.2.2.2).obs := by
  unfold d26_3
  repeat' (first | exact trivial | apply And.intro)
theorem lok26_3 (n0 : Bool) (r0 : List (List AV)) (n6 : Bool) (r6 : List (List AV)) (b7 : Bool) (n12 : Bool) (r12 : List (List AV)) (x13 : Int) (x14 : Int) : LoopOk TA 26 3 c26_3 (hd26_3 n0 r0 n6 r6 b7 n12 r12 x13 x14) (Dt.opt (w26_3 n0 r0 n6 r6 b7 n12 r12 x13 x14) (xd26_3 n0 r0 n12 r12 x13)) :=
  loop_okD cr26 (fun p Q => r26_3 n0 r0 n12 r12 x13 p Q) (fun p => ob26_3 n0 r0 n12 r12 x13 p) (fun x h => by cases h) (by intro x r h; exact (Option.some.inj h).symm) (n6, r6, b7, x14)
abbrev X26 : Type := Bool × (List (List AV)) × Bool
noncomputable def d26 (n0 : Bool) (r0 : List (List AV)) (n1 : Bool) (r1 : List (List AV)) : Dt X26 :=
  Dt.opt (v88 n0 r0) fun y1 =>
  .ob (LoopOk TA 26 3 c26_3 (hd26_3 n0 r0 y1.1 y1.2 true n1 r1 (r1.length : Int) 0) (Dt.opt (w26_3 n0 r0 y1.1 y1.2 true n1 r1 (r1.length : Int) 0) (xd26_3 n0 r0 n1 r1 (r1.length : Int))))
  (Dt.opt (w26_3 n0 r0 y1.1 y1.2 true n1 r1 (r1.length : Int) 0) fun y3 =>
    .br (!y3.2.2)
    (Dt.opt (v88 n0 r0) fun y4 =>
      .ret (y4.1, y4.2, false))
    (.ret (y3.1, y3.2.1, true)))
noncomputable def v26 (n0 : Bool) (r0 : List (List AV)) (n1 : Bool) (r1 : List (List AV)) : Option X26 := (d26 n0 r0 n1 r1).val
noncomputable def sh26 (n0 : Bool) (r0 : List (List AV)) (n1 : Bool) (r1 : List (List AV)) (x : X26) : AV × List GB := ((.tup [(.sl 11 x.1 x.2.1 .no), (.bool x.2.2)]), [])
noncomputable def sd26 (n0 : Bool) (r0 : List (List AV)) (n1 : Bool) (r1 : List (List AV)) (x : X26) : Dt (AV × List GB) := .ret ((.tup [(.sl 11 x.1 x.2.1 .no), (.bool x.2.2)]), [])
noncomputable def s26 : FS := guardS [.c (.sl 11 .no), .c (.sl 25 .no)] [] fun xs H => Dt.opt (v26 (nth xs 0).slNil (nth xs 0).slRows (nth xs 1).slNil (nth xs 1).slRows) (sd26 (nth xs 0).slNil (nth xs 0).slRows (nth xs 1).slNil (nth xs 1).slRows)
theorem e26 (n0 : Bool) (r0 : List (List AV)) (n1 : Bool) (r1 : List (List AV)) (Q : AV × List GB → Prop) : wpN TA (cT cs26) lt26 un26 80 (evFunc TA 26 [(.sl 11 n0 r0 .no), (.sl 25 n1 r1 .no)] []) Q = (d26 n0 r0 n1 r1).wp (fun x => Q (sh26 n0 r0 n1 r1 x)) := by kernel_rfl
theorem o26 (n0 : Bool) (r0 : List (List AV)) (n1 : Bool) (r1 : List (List AV)) : (d26 n0 r0 n1 r1).obs := by
  unfold d26
  repeat' (first | exact trivial | apply lok26_3 | apply And.intro)
theorem k26 : FRight TA 26 s26 := fright (D := fun xs H => d26 (nth xs 0).slNil (nth xs 0).slRows (nth xs 1).slNil (nth xs 1).slRows) (sh := fun xs H => sh26 (nth xs 0).slNil (nth xs 0).slRows (nth xs 1).slNil (nth xs 1).slRows) cr26 (fun xs H Q => e26 (nth xs 0).slNil (nth xs 0).slRows (nth xs 1).slNil (nth xs 1).slRows Q) (fun xs H => o26 (nth xs 0).slNil (nth xs 0).slRows (nth xs 1).slNil (nth xs 1).slRows) (by intro xs H x r h; exact (Option.some.inj h).symm)
/-! vedette/vedetteref6.SameAll -/
noncomputable def un28 : Nat → Bool := fun _ => false
noncomputable def cs28 : List (Nat × FS) := []
theorem cr28 : CRight TA (cT cs28) := cT_right cT_nil
noncomputable def c28_4 : Code := cB (cB (cR (cL (cR (cR (bodyOf Try.f28))))))
abbrev P28_4 : Type := Int
abbrev Y28_4 : Type := Nat
noncomputable def d28_4 (n0 : Bool) (r0 : List (List AV)) (n1 : Bool) (r1 : List (List AV)) (x5 : Int) : Dt (P28_4 ⊕ Y28_4) :=
  .br (decide (x5 < (r0.length : Int)))
  (.br (((decide (0 ≤ x5)) && (decide (x5 < (r0.length : Int)))) && true)
    (.br (epOk [(.i .i64), (.i .i64), (.i .i64), (.i .i64), .s, (.i .i64), .s, (.i .i64), .s, (.i .i64), .s] (r0.getD x5.toNat []) 0)
      (.br (((decide (0 ≤ x5)) && (decide (x5 < (r1.length : Int)))) && true)
        (.br (epOk [(.i .i64), (.i .i64), (.i .i64), (.i .i64), .s, (.i .i64), .s, (.i .i64), .s, (.i .i64), .s] (r1.getD x5.toNat []) 0)
          (.br (!(((nth (r0.getD x5.toNat []) 0).intOf == (nth (r1.getD x5.toNat []) 0).intOf) && (((nth (r0.getD x5.toNat []) 1).intOf == (nth (r1.getD x5.toNat []) 1).intOf) && (((nth (r0.getD x5.toNat []) 2).intOf == (nth (r1.getD x5.toNat []) 2).intOf) && (((nth (r0.getD x5.toNat []) 3).intOf == (nth (r1.getD x5.toNat []) 3).intOf) && (((nth (r0.getD x5.toNat []) 4).strOf == (nth (r1.getD x5.toNat []) 4).strOf) && (((nth (r0.getD x5.toNat []) 5).intOf == (nth (r1.getD x5.toNat []) 5).intOf) && (((nth (r0.getD x5.toNat []) 6).strOf == (nth (r1.getD x5.toNat []) 6).strOf) && (((nth (r0.getD x5.toNat []) 7).intOf == (nth (r1.getD x5.toNat []) 7).intOf) && (((nth (r0.getD x5.toNat []) 8).strOf == (nth (r1.getD x5.toNat []) 8).strOf) && (((nth (r0.getD x5.toNat []) 9).intOf == (nth (r1.getD x5.toNat []) 9).intOf) && (((nth (r0.getD x5.toNat []) 10).strOf == (nth (r1.getD x5.toNat []) 10).strOf) && true))))))))))))
            (.ret (.inr 0))
            (.ret (.inl (wrapF .i64 (x5 + 1))))) (.fail)) (.fail)) (.fail)) (.fail))
  (.ret (.inr 1))
noncomputable def w28_4 (n0 : Bool) (r0 : List (List AV)) (n1 : Bool) (r1 : List (List AV)) (x5 : Int) : Option Y28_4 := loopV (fun p : P28_4 => d28_4 n0 r0 n1 r1 p) x5
noncomputable def hd28_4 (n0 : Bool) (r0 : List (List AV)) (n1 : Bool) (r1 : List (List AV)) (x5 : Int) : St := (stAt 26 false [(0, (.sl 11 n0 r0 .no)), (1, (.sl 11 n1 r1 .no)), (5, (.int .i64 x5))] [] [])
noncomputable def ex28_4 (n0 : Bool) (r0 : List (List AV)) (n1 : Bool) (r1 : List (List AV)) (x : Y28_4) : Ex × St := bif Nat.beq x 0 then (.ret, (stAt 26 false [(4, (.bool false))] [] [])) else ((.exit 0), (stAt 26 false [] [] []))
noncomputable def xd28_4 (n0 : Bool) (r0 : List (List AV)) (n1 : Bool) (r1 : List (List AV)) (x : Y28_4) : Dt (Ex × St) := .br (Nat.beq x 0) (.ret (.ret, (stAt 26 false [(4, (.bool false))] [] []))) (.ret ((.exit 0), (stAt 26 false [] [] [])))
noncomputable def lt28 : LT := fun rid st => bif Nat.beq rid 4 then Dt.opt (w28_4 (nth st.tm 0).slNil (nth st.tm 0).slRows (nth st.tm 1).slNil (nth st.tm 1).slRows (nth st.tm 5).intOf) (xd28_4 (nth st.tm 0).slNil (nth st.tm 0).slRows (nth st.tm 1).slNil (nth st.tm 1).slRows) else .fail
theorem r28_4 (n0 : Bool) (r0 : List (List AV)) (n1 : Bool) (r1 : List (List AV)) (p : P28_4) (Q : Ex × St → Prop) : wpN TA (cT cs28) lt28 un28 80 (roundR TA 28 4 c28_4 (hd28_4 n0 r0 n1 r1 p)) Q = (d28_4 n0 r0 n1 r1 p).wp (fun o => Sum.rec (fun p => Q (.normal, hd28_4 n0 r0 n1 r1 p)) (fun x => Q (ex28_4 n0 r0 n1 r1 x)) o) := by kernel_rfl
theorem ob28_4 (n0 : Bool) (r0 : List (List AV)) (n1 : Bool) (r1 : List (List AV)) (p : P28_4) : (d28_4 n0 r0 n1 r1 p).obs := by
  unfold d28_4
  repeat' (first | exact trivial | apply And.intro)
theorem lok28_4 (n0 : Bool) (r0 : List (List AV)) (n1 : Bool) (r1 : List (List AV)) (x5 : Int) : LoopOk TA 28 4 c28_4 (hd28_4 n0 r0 n1 r1 x5) (Dt.opt (w28_4 n0 r0 n1 r1 x5) (xd28_4 n0 r0 n1 r1)) :=
  loop_okD cr28 (fun p Q => r28_4 n0 r0 n1 r1 p Q) (fun p => ob28_4 n0 r0 n1 r1 p) (fun x => by
    unfold ex28_4
    repeat' (first | (intro h; cases h; done) | (generalize Nat.beq _ _ = b; cases b))) (fun x r h => by
    simp only [xd28_4, Dt.val_br, Dt.val_ret, ex28_4] at h ⊢
    revert h
    repeat' (first | (intro h; exact (Option.some.inj h).symm) | (generalize Nat.beq _ _ = b; cases b))) x5
abbrev X28 : Type := Bool
noncomputable def d28 (n0 : Bool) (r0 : List (List AV)) (n1 : Bool) (r1 : List (List AV)) : Dt X28 :=
  .br (!((r0.length : Int) == (r1.length : Int)))
  (.ret false)
  (.ob (LoopOk TA 28 4 c28_4 (hd28_4 n0 r0 n1 r1 0) (Dt.opt (w28_4 n0 r0 n1 r1 0) (xd28_4 n0 r0 n1 r1)))
    (Dt.opt (w28_4 n0 r0 n1 r1 0) fun y1 =>
      .br (Nat.beq y1 0)
      (.ret false)
      (.ret true)))
noncomputable def v28 (n0 : Bool) (r0 : List (List AV)) (n1 : Bool) (r1 : List (List AV)) : Option X28 := (d28 n0 r0 n1 r1).val
noncomputable def sh28 (n0 : Bool) (r0 : List (List AV)) (n1 : Bool) (r1 : List (List AV)) (x : X28) : AV × List GB := ((.bool x), [])
noncomputable def sd28 (n0 : Bool) (r0 : List (List AV)) (n1 : Bool) (r1 : List (List AV)) (x : X28) : Dt (AV × List GB) := .ret ((.bool x), [])
noncomputable def s28 : FS := guardS [.c (.sl 11 .no), .c (.sl 11 .no)] [] fun xs H => Dt.opt (v28 (nth xs 0).slNil (nth xs 0).slRows (nth xs 1).slNil (nth xs 1).slRows) (sd28 (nth xs 0).slNil (nth xs 0).slRows (nth xs 1).slNil (nth xs 1).slRows)
theorem e28 (n0 : Bool) (r0 : List (List AV)) (n1 : Bool) (r1 : List (List AV)) (Q : AV × List GB → Prop) : wpN TA (cT cs28) lt28 un28 80 (evFunc TA 28 [(.sl 11 n0 r0 .no), (.sl 11 n1 r1 .no)] []) Q = (d28 n0 r0 n1 r1).wp (fun x => Q (sh28 n0 r0 n1 r1 x)) := by kernel_rfl
theorem o28 (n0 : Bool) (r0 : List (List AV)) (n1 : Bool) (r1 : List (List AV)) : (d28 n0 r0 n1 r1).obs := by
  unfold d28
  repeat' (first | exact trivial | apply lok28_4 | apply And.intro)
theorem k28 : FRight TA 28 s28 := fright (D := fun xs H => d28 (nth xs 0).slNil (nth xs 0).slRows (nth xs 1).slNil (nth xs 1).slRows) (sh := fun xs H => sh28 (nth xs 0).slNil (nth xs 0).slRows (nth xs 1).slNil (nth xs 1).slRows) cr28 (fun xs H Q => e28 (nth xs 0).slNil (nth xs 0).slRows (nth xs 1).slNil (nth xs 1).slRows Q) (fun xs H => o28 (nth xs 0).slNil (nth xs 0).slRows (nth xs 1).slNil (nth xs 1).slRows) (by intro xs H x r h; exact (Option.some.inj h).symm)
/-! vedette/vedettelaw16.DiffFolds -/
noncomputable def un3 : Nat → Bool := fun _ => false
noncomputable def cs3 : List (Nat × FS) := [(21, s21), (22, s22), (23, s23), (24, s24), (25, s25), (27, s27), (26, s26), (28, s28)]
theorem cr3 : CRight TA (cT cs3) := cT_right (cT_cons k21 (cT_cons k22 (cT_cons k23 (cT_cons k24 (cT_cons k25 (cT_cons k27 (cT_cons k26 (cT_cons k28 cT_nil))))))))
noncomputable def c3_7 : Code := cB (cB (cR (cL (cR (cR (cR (cR (bodyOf Try.f3))))))))
abbrev P3_7 : Type := Int
abbrev Y3_7 : Type := Nat
noncomputable def d3_7 (n0 : Bool) (r0 : List (List AV)) (n1 : Bool) (r1 : List (List AV)) (n9 : Bool) (r9 : List (List AV)) (xl6_0 : Int) (xl6_1 : Int) (xl6_2 : Int) (xl6_3 : Int) (xl7_0 : Int) (xl7_1 : Int) (xl7_2 : Int) (xl7_3 : Int) (x10 : Int) : Dt (P3_7 ⊕ Y3_7) :=
  .br (decide (x10 < (r9.length : Int)))
  (.br (((decide (0 ≤ x10)) && (decide (x10 < (r9.length : Int)))) && true)
    (.br (epOk [(.i .i64), (.i .i64), (.i .i64), (.i .i64), (.i .i64), (.i .i64), .s, (.i .i64), .s, (.i .i64), .s, (.i .i64), .s, (.i .i64), (.i .u8), (.i .i64), (.i .i64), (.i .i64), .s, (.i .i64), .s, (.i .i64), .s, (.i .i64), .s] (r9.getD x10.toNat []) 0)
      (Dt.opt (v25 ((nth (r9.getD x10.toNat []) 0).intOf) ((nth (r9.getD x10.toNat []) 1).intOf) ((nth (r9.getD x10.toNat []) 2).intOf) ((nth (r9.getD x10.toNat []) 3).intOf) ((nth (r9.getD x10.toNat []) 4).intOf) ((nth (r9.getD x10.toNat []) 5).intOf) ((nth (r9.getD x10.toNat []) 6).strOf) ((nth (r9.getD x10.toNat []) 7).intOf) ((nth (r9.getD x10.toNat []) 8).strOf) ((nth (r9.getD x10.toNat []) 9).intOf) ((nth (r9.getD x10.toNat []) 10).strOf) ((nth (r9.getD x10.toNat []) 11).intOf) ((nth (r9.getD x10.toNat []) 12).strOf) ((nth (r9.getD x10.toNat []) 13).intOf) ((nth (r9.getD x10.toNat []) 14).intOf) ((nth (r9.getD x10.toNat []) 15).intOf) ((nth (r9.getD x10.toNat []) 16).intOf) ((nth (r9.getD x10.toNat []) 17).intOf) ((nth (r9.getD x10.toNat []) 18).strOf) ((nth (r9.getD x10.toNat []) 19).intOf) ((nth (r9.getD x10.toNat []) 20).strOf) ((nth (r9.getD x10.toNat []) 21).intOf) ((nth (r9.getD x10.toNat []) 22).strOf) ((nth (r9.getD x10.toNat []) 23).intOf) ((nth (r9.getD x10.toNat []) 24).strOf)) fun y7 =>
        .br (!y7)
        (.ret (.inr 0))
        (.br (decide (0 < x10))
          (.br (((decide (0 ≤ x10)) && (decide (x10 < (r9.length : Int)))) && true)
            (.br (epOk [(.i .i64)] (r9.getD x10.toNat []) 1)
              (.br (((decide (0 ≤ (wrapF .i64 (x10 - 1)))) && (decide ((wrapF .i64 (x10 - 1)) < (r9.length : Int)))) && true)
                (.br (epOk [(.i .i64)] (r9.getD (wrapF .i64 (x10 - 1)).toNat []) 1)
                  (.br (decide ((nth (r9.getD x10.toNat []) 1).intOf ≤ (nth (r9.getD (wrapF .i64 (x10 - 1)).toNat []) 1).intOf))
                    (.ret (.inr 0))
                    (.ret (.inl (wrapF .i64 (x10 + 1))))) (.fail)) (.fail)) (.fail)) (.fail))
          (.ret (.inl (wrapF .i64 (x10 + 1)))))) (.fail)) (.fail))
  (.ret (.inr 1))
noncomputable def w3_7 (n0 : Bool) (r0 : List (List AV)) (n1 : Bool) (r1 : List (List AV)) (n9 : Bool) (r9 : List (List AV)) (x10 : Int) (xl6_0 : Int) (xl6_1 : Int) (xl6_2 : Int) (xl6_3 : Int) (xl7_0 : Int) (xl7_1 : Int) (xl7_2 : Int) (xl7_3 : Int) : Option Y3_7 := loopV (fun p : P3_7 => d3_7 n0 r0 n1 r1 n9 r9 xl6_0 xl6_1 xl6_2 xl6_3 xl7_0 xl7_1 xl7_2 xl7_3 p) x10
noncomputable def hd3_7 (n0 : Bool) (r0 : List (List AV)) (n1 : Bool) (r1 : List (List AV)) (n9 : Bool) (r9 : List (List AV)) (x10 : Int) (xl6_0 : Int) (xl6_1 : Int) (xl6_2 : Int) (xl6_3 : Int) (xl7_0 : Int) (xl7_1 : Int) (xl7_2 : Int) (xl7_3 : Int) : St := (stAt 93 false [(0, (.sl 11 n0 r0 .no)), (1, (.sl 11 n1 r1 .no)), (6, (.lp 6 0)), (7, (.lp 7 0)), (9, (.sl 25 n9 r9 (.tc 9))), (10, (.int .i64 x10))] [(6, ([(.int .i64 xl6_0), (.int .i64 xl6_1), (.int .i64 xl6_2), (.int .i64 xl6_3)] : List AV)), (7, ([(.int .i64 xl7_0), (.int .i64 xl7_1), (.int .i64 xl7_2), (.int .i64 xl7_3)] : List AV))] [])
noncomputable def ex3_7 (n0 : Bool) (r0 : List (List AV)) (n1 : Bool) (r1 : List (List AV)) (n9 : Bool) (r9 : List (List AV)) (xl6_0 : Int) (xl6_1 : Int) (xl6_2 : Int) (xl6_3 : Int) (xl7_0 : Int) (xl7_1 : Int) (xl7_2 : Int) (xl7_3 : Int) (x : Y3_7) : Ex × St := bif Nat.beq x 0 then (.ret, (stAt 93 false [(0, (.sl 11 n0 r0 .no)), (1, (.sl 11 n1 r1 .no)), (6, (.lp 6 0)), (7, (.lp 7 0)), (8, (.bool false)), (9, (.sl 25 n9 r9 (.tc 9)))] [(6, ([(.int .i64 xl6_0), (.int .i64 xl6_1), (.int .i64 xl6_2), (.int .i64 xl6_3)] : List AV)), (7, ([(.int .i64 xl7_0), (.int .i64 xl7_1), (.int .i64 xl7_2), (.int .i64 xl7_3)] : List AV))] [])) else ((.exit 0), (stAt 93 false [(0, (.sl 11 n0 r0 .no)), (1, (.sl 11 n1 r1 .no)), (6, (.lp 6 0)), (7, (.lp 7 0)), (9, (.sl 25 n9 r9 (.tc 9)))] [(6, ([(.int .i64 xl6_0), (.int .i64 xl6_1), (.int .i64 xl6_2), (.int .i64 xl6_3)] : List AV)), (7, ([(.int .i64 xl7_0), (.int .i64 xl7_1), (.int .i64 xl7_2), (.int .i64 xl7_3)] : List AV))] []))
noncomputable def xd3_7 (n0 : Bool) (r0 : List (List AV)) (n1 : Bool) (r1 : List (List AV)) (n9 : Bool) (r9 : List (List AV)) (xl6_0 : Int) (xl6_1 : Int) (xl6_2 : Int) (xl6_3 : Int) (xl7_0 : Int) (xl7_1 : Int) (xl7_2 : Int) (xl7_3 : Int) (x : Y3_7) : Dt (Ex × St) := .br (Nat.beq x 0) (.ret (.ret, (stAt 93 false [(0, (.sl 11 n0 r0 .no)), (1, (.sl 11 n1 r1 .no)), (6, (.lp 6 0)), (7, (.lp 7 0)), (8, (.bool false)), (9, (.sl 25 n9 r9 (.tc 9)))] [(6, ([(.int .i64 xl6_0), (.int .i64 xl6_1), (.int .i64 xl6_2), (.int .i64 xl6_3)] : List AV)), (7, ([(.int .i64 xl7_0), (.int .i64 xl7_1), (.int .i64 xl7_2), (.int .i64 xl7_3)] : List AV))] []))) (.ret ((.exit 0), (stAt 93 false [(0, (.sl 11 n0 r0 .no)), (1, (.sl 11 n1 r1 .no)), (6, (.lp 6 0)), (7, (.lp 7 0)), (9, (.sl 25 n9 r9 (.tc 9)))] [(6, ([(.int .i64 xl6_0), (.int .i64 xl6_1), (.int .i64 xl6_2), (.int .i64 xl6_3)] : List AV)), (7, ([(.int .i64 xl7_0), (.int .i64 xl7_1), (.int .i64 xl7_2), (.int .i64 xl7_3)] : List AV))] [])))
noncomputable def lt3 : LT := fun rid st => bif Nat.beq rid 7 then Dt.opt (w3_7 (nth st.tm 0).slNil (nth st.tm 0).slRows (nth st.tm 1).slNil (nth st.tm 1).slRows (nth st.tm 9).slNil (nth st.tm 9).slRows (nth st.tm 10).intOf (nth (nthL st.L 6) 0).intOf (nth (nthL st.L 6) 1).intOf (nth (nthL st.L 6) 2).intOf (nth (nthL st.L 6) 3).intOf (nth (nthL st.L 7) 0).intOf (nth (nthL st.L 7) 1).intOf (nth (nthL st.L 7) 2).intOf (nth (nthL st.L 7) 3).intOf) (xd3_7 (nth st.tm 0).slNil (nth st.tm 0).slRows (nth st.tm 1).slNil (nth st.tm 1).slRows (nth st.tm 9).slNil (nth st.tm 9).slRows (nth (nthL st.L 6) 0).intOf (nth (nthL st.L 6) 1).intOf (nth (nthL st.L 6) 2).intOf (nth (nthL st.L 6) 3).intOf (nth (nthL st.L 7) 0).intOf (nth (nthL st.L 7) 1).intOf (nth (nthL st.L 7) 2).intOf (nth (nthL st.L 7) 3).intOf) else .fail
theorem r3_7 (n0 : Bool) (r0 : List (List AV)) (n1 : Bool) (r1 : List (List AV)) (n9 : Bool) (r9 : List (List AV)) (xl6_0 : Int) (xl6_1 : Int) (xl6_2 : Int) (xl6_3 : Int) (xl7_0 : Int) (xl7_1 : Int) (xl7_2 : Int) (xl7_3 : Int) (p : P3_7) (Q : Ex × St → Prop) : wpN TA (cT cs3) lt3 un3 80 (roundR TA 3 7 c3_7 (hd3_7 n0 r0 n1 r1 n9 r9 p xl6_0 xl6_1 xl6_2 xl6_3 xl7_0 xl7_1 xl7_2 xl7_3)) Q = (d3_7 n0 r0 n1 r1 n9 r9 xl6_0 xl6_1 xl6_2 xl6_3 xl7_0 xl7_1 xl7_2 xl7_3 p).wp (fun o => Sum.rec (fun p => Q (.normal, hd3_7 n0 r0 n1 r1 n9 r9 p xl6_0 xl6_1 xl6_2 xl6_3 xl7_0 xl7_1 xl7_2 xl7_3)) (fun x => Q (ex3_7 n0 r0 n1 r1 n9 r9 xl6_0 xl6_1 xl6_2 xl6_3 xl7_0 xl7_1 xl7_2 xl7_3 x)) o) := by kernel_rfl
theorem ob3_7 (n0 : Bool) (r0 : List (List AV)) (n1 : Bool) (r1 : List (List AV)) (n9 : Bool) (r9 : List (List AV)) (xl6_0 : Int) (xl6_1 : Int) (xl6_2 : Int) (xl6_3 : Int) (xl7_0 : Int) (xl7_1 : Int) (xl7_2 : Int) (xl7_3 : Int) (p : P3_7) : (d3_7 n0 r0 n1 r1 n9 r9 xl6_0 xl6_1 xl6_2 xl6_3 xl7_0 xl7_1 xl7_2 xl7_3 p).obs := by
  unfold d3_7
  repeat' (first | exact trivial | apply And.intro)
theorem lok3_7 (n0 : Bool) (r0 : List (List AV)) (n1 : Bool) (r1 : List (List AV)) (n9 : Bool) (r9 : List (List AV)) (x10 : Int) (xl6_0 : Int) (xl6_1 : Int) (xl6_2 : Int) (xl6_3 : Int) (xl7_0 : Int) (xl7_1 : Int) (xl7_2 : Int) (xl7_3 : Int) : LoopOk TA 3 7 c3_7 (hd3_7 n0 r0 n1 r1 n9 r9 x10 xl6_0 xl6_1 xl6_2 xl6_3 xl7_0 xl7_1 xl7_2 xl7_3) (Dt.opt (w3_7 n0 r0 n1 r1 n9 r9 x10 xl6_0 xl6_1 xl6_2 xl6_3 xl7_0 xl7_1 xl7_2 xl7_3) (xd3_7 n0 r0 n1 r1 n9 r9 xl6_0 xl6_1 xl6_2 xl6_3 xl7_0 xl7_1 xl7_2 xl7_3)) :=
  loop_okD cr3 (fun p Q => r3_7 n0 r0 n1 r1 n9 r9 xl6_0 xl6_1 xl6_2 xl6_3 xl7_0 xl7_1 xl7_2 xl7_3 p Q) (fun p => ob3_7 n0 r0 n1 r1 n9 r9 xl6_0 xl6_1 xl6_2 xl6_3 xl7_0 xl7_1 xl7_2 xl7_3 p) (fun x => by
    unfold ex3_7
    repeat' (first | (intro h; cases h; done) | (generalize Nat.beq _ _ = b; cases b))) (fun x r h => by
    simp only [xd3_7, Dt.val_br, Dt.val_ret, ex3_7] at h ⊢
    revert h
    repeat' (first | (intro h; exact (Option.some.inj h).symm) | (generalize Nat.beq _ _ = b; cases b))) x10
abbrev X3 : Type := Bool
noncomputable def d3 (n0 : Bool) (r0 : List (List AV)) (n1 : Bool) (r1 : List (List AV)) (x2_0 : Int) (x2_1 : Int) (x2_2 : Int) (x2_3 : Int) (x3_0 : Int) (x3_1 : Int) (x3_2 : Int) (x3_3 : Int) : Dt X3 :=
  Dt.opt (v21) fun y1 =>
  Dt.opt (v22 n0 r0) fun y2 =>
  .br (!y2)
  (.ret true)
  (Dt.opt (v22 n1 r1) fun y3 =>
    .br (!y3)
    (.ret true)
    (Dt.opt (v23 n0 r0) fun y4 =>
      .br (!y4)
      (.ret true)
      (Dt.opt (v23 n1 r1) fun y5 =>
        .br (!y5)
        (.ret true)
        (Dt.opt (v24 n0 r0 x2_0 x2_1 x2_2 x2_3 n1 r1 x3_0 x3_1 x3_2 x3_3) fun y6 =>
          .ob (LoopOk TA 3 7 c3_7 (hd3_7 n0 r0 n1 r1 y6.1 y6.2 0 x2_0 x2_1 x2_2 x2_3 x3_0 x3_1 x3_2 x3_3) (Dt.opt (w3_7 n0 r0 n1 r1 y6.1 y6.2 0 x2_0 x2_1 x2_2 x2_3 x3_0 x3_1 x3_2 x3_3) (xd3_7 n0 r0 n1 r1 y6.1 y6.2 x2_0 x2_1 x2_2 x2_3 x3_0 x3_1 x3_2 x3_3)))
          (Dt.opt (w3_7 n0 r0 n1 r1 y6.1 y6.2 0 x2_0 x2_1 x2_2 x2_3 x3_0 x3_1 x3_2 x3_3) fun y8 =>
            .br (Nat.beq y8 0)
            (.ret false)
            (Dt.opt (v27 n0 r0 x2_0 x2_1 x2_2 x2_3) fun y9 =>
              Dt.opt (v26 y9.1 y9.2 y6.1 y6.2) fun y10 =>
              .br y10.2.2
              (Dt.opt (v27 n1 r1 x3_0 x3_1 x3_2 x3_3) fun y11 =>
                Dt.opt (v28 y10.1 y10.2.1 y11.1 y11.2) fun y12 =>
                .br y12
                (Dt.opt (v24 n0 r0 x2_0 x2_1 x2_2 x2_3 n0 r0 x2_0 x2_1 x2_2 x2_3) fun y13 =>
                  .ret ((y13.2.length : Int) == 0))
                (.ret false))
              (.ret false)))))))
noncomputable def v3 (n0 : Bool) (r0 : List (List AV)) (n1 : Bool) (r1 : List (List AV)) (x2_0 : Int) (x2_1 : Int) (x2_2 : Int) (x2_3 : Int) (x3_0 : Int) (x3_1 : Int) (x3_2 : Int) (x3_3 : Int) : Option X3 := (d3 n0 r0 n1 r1 x2_0 x2_1 x2_2 x2_3 x3_0 x3_1 x3_2 x3_3).val
noncomputable def sh3 (n0 : Bool) (r0 : List (List AV)) (n1 : Bool) (r1 : List (List AV)) (x2_0 : Int) (x2_1 : Int) (x2_2 : Int) (x2_3 : Int) (x3_0 : Int) (x3_1 : Int) (x3_2 : Int) (x3_3 : Int) (x : X3) : AV × List GB := ((.bool x), [])
noncomputable def sd3 (n0 : Bool) (r0 : List (List AV)) (n1 : Bool) (r1 : List (List AV)) (x2_0 : Int) (x2_1 : Int) (x2_2 : Int) (x2_3 : Int) (x3_0 : Int) (x3_1 : Int) (x3_2 : Int) (x3_3 : Int) (x : X3) : Dt (AV × List GB) := .ret ((.bool x), [])
noncomputable def s3 : FS := guardS [.c (.sl 11 .no), .c (.sl 11 .no), .agg [.i .i64, .i .i64, .i .i64, .i .i64], .agg [.i .i64, .i .i64, .i .i64, .i .i64]] [] fun xs H => Dt.opt (v3 (nth xs 0).slNil (nth xs 0).slRows (nth xs 1).slNil (nth xs 1).slRows (nth (nth xs 2).cells 0).intOf (nth (nth xs 2).cells 1).intOf (nth (nth xs 2).cells 2).intOf (nth (nth xs 2).cells 3).intOf (nth (nth xs 3).cells 0).intOf (nth (nth xs 3).cells 1).intOf (nth (nth xs 3).cells 2).intOf (nth (nth xs 3).cells 3).intOf) (sd3 (nth xs 0).slNil (nth xs 0).slRows (nth xs 1).slNil (nth xs 1).slRows (nth (nth xs 2).cells 0).intOf (nth (nth xs 2).cells 1).intOf (nth (nth xs 2).cells 2).intOf (nth (nth xs 2).cells 3).intOf (nth (nth xs 3).cells 0).intOf (nth (nth xs 3).cells 1).intOf (nth (nth xs 3).cells 2).intOf (nth (nth xs 3).cells 3).intOf)
theorem e3 (n0 : Bool) (r0 : List (List AV)) (n1 : Bool) (r1 : List (List AV)) (x2_0 : Int) (x2_1 : Int) (x2_2 : Int) (x2_3 : Int) (x3_0 : Int) (x3_1 : Int) (x3_2 : Int) (x3_3 : Int) (Q : AV × List GB → Prop) : wpN TA (cT cs3) lt3 un3 80 (evFunc TA 3 [(.sl 11 n0 r0 .no), (.sl 11 n1 r1 .no), (.agg [(.int .i64 x2_0), (.int .i64 x2_1), (.int .i64 x2_2), (.int .i64 x2_3)]), (.agg [(.int .i64 x3_0), (.int .i64 x3_1), (.int .i64 x3_2), (.int .i64 x3_3)])] []) Q = (d3 n0 r0 n1 r1 x2_0 x2_1 x2_2 x2_3 x3_0 x3_1 x3_2 x3_3).wp (fun x => Q (sh3 n0 r0 n1 r1 x2_0 x2_1 x2_2 x2_3 x3_0 x3_1 x3_2 x3_3 x)) := by kernel_rfl
theorem o3 (n0 : Bool) (r0 : List (List AV)) (n1 : Bool) (r1 : List (List AV)) (x2_0 : Int) (x2_1 : Int) (x2_2 : Int) (x2_3 : Int) (x3_0 : Int) (x3_1 : Int) (x3_2 : Int) (x3_3 : Int) : (d3 n0 r0 n1 r1 x2_0 x2_1 x2_2 x2_3 x3_0 x3_1 x3_2 x3_3).obs := by
  unfold d3
  repeat' (first | exact trivial | apply lok3_7 | apply And.intro)
theorem k3 : FRight TA 3 s3 := fright (D := fun xs H => d3 (nth xs 0).slNil (nth xs 0).slRows (nth xs 1).slNil (nth xs 1).slRows (nth (nth xs 2).cells 0).intOf (nth (nth xs 2).cells 1).intOf (nth (nth xs 2).cells 2).intOf (nth (nth xs 2).cells 3).intOf (nth (nth xs 3).cells 0).intOf (nth (nth xs 3).cells 1).intOf (nth (nth xs 3).cells 2).intOf (nth (nth xs 3).cells 3).intOf) (sh := fun xs H => sh3 (nth xs 0).slNil (nth xs 0).slRows (nth xs 1).slNil (nth xs 1).slRows (nth (nth xs 2).cells 0).intOf (nth (nth xs 2).cells 1).intOf (nth (nth xs 2).cells 2).intOf (nth (nth xs 2).cells 3).intOf (nth (nth xs 3).cells 0).intOf (nth (nth xs 3).cells 1).intOf (nth (nth xs 3).cells 2).intOf (nth (nth xs 3).cells 3).intOf) cr3 (fun xs H Q => e3 (nth xs 0).slNil (nth xs 0).slRows (nth xs 1).slNil (nth xs 1).slRows (nth (nth xs 2).cells 0).intOf (nth (nth xs 2).cells 1).intOf (nth (nth xs 2).cells 2).intOf (nth (nth xs 2).cells 3).intOf (nth (nth xs 3).cells 0).intOf (nth (nth xs 3).cells 1).intOf (nth (nth xs 3).cells 2).intOf (nth (nth xs 3).cells 3).intOf Q) (fun xs H => o3 (nth xs 0).slNil (nth xs 0).slRows (nth xs 1).slNil (nth xs 1).slRows (nth (nth xs 2).cells 0).intOf (nth (nth xs 2).cells 1).intOf (nth (nth xs 2).cells 2).intOf (nth (nth xs 2).cells 3).intOf (nth (nth xs 3).cells 0).intOf (nth (nth xs 3).cells 1).intOf (nth (nth xs 3).cells 2).intOf (nth (nth xs 3).cells 3).intOf) (by intro xs H x r h; exact (Option.some.inj h).symm)
end Go.Ab
