/- What functions of the program come to, as branches. Written by a program of this session's (gen.py, lift.py). -/
import Derived.Test.YtmekbgeknkknfaaL2
import Derived.KernelRfl
set_option linter.unusedVariables false
namespace Go.Ab
open Go.Proofs
/-! (*vedette/view.View).Waits -/
noncomputable def un36 : Nat → Bool := fun _ => false
noncomputable def cs36 : List (Nat × FS) := []
theorem cr36 : CRight TA (cT cs36) := cT_right cT_nil
noncomputable def lt36 : LT := fun rid st => .fail
abbrev X36 : Type := Int
noncomputable def d36 (m0 : List (List AV × AV)) (xh1_0 : Int) (xh1_1 : Int) (xh1_2 : Int) (xh1_3 : Int) (xh1_4 : Int) (nh1_5 : Bool) (rh1_5 : List (List AV)) (nh1_6 : Bool) (rh1_6 : List (List AV)) : Dt X36 :=
  .ret (m0.length : Int)
noncomputable def v36 (m0 : List (List AV × AV)) (xh1_0 : Int) (xh1_1 : Int) (xh1_2 : Int) (xh1_3 : Int) (xh1_4 : Int) (nh1_5 : Bool) (rh1_5 : List (List AV)) (nh1_6 : Bool) (rh1_6 : List (List AV)) : Option X36 := (d36 m0 xh1_0 xh1_1 xh1_2 xh1_3 xh1_4 nh1_5 rh1_5 nh1_6 rh1_6).val
noncomputable def sh36 (m0 : List (List AV × AV)) (xh1_0 : Int) (xh1_1 : Int) (xh1_2 : Int) (xh1_3 : Int) (xh1_4 : Int) (nh1_5 : Bool) (rh1_5 : List (List AV)) (nh1_6 : Bool) (rh1_6 : List (List AV)) (x : X36) : AV × List GB := ((.int .i64 x), [(.map m0), (.cells [(.int .i64 xh1_0), (.int .i64 xh1_1), (.int .i64 xh1_2), (.int .i64 xh1_3), (.int .i64 xh1_4), (.sl 11 nh1_5 rh1_5 .no), (.sl 25 nh1_6 rh1_6 .self), (.mp 0)])])
noncomputable def sd36 (m0 : List (List AV × AV)) (xh1_0 : Int) (xh1_1 : Int) (xh1_2 : Int) (xh1_3 : Int) (xh1_4 : Int) (nh1_5 : Bool) (rh1_5 : List (List AV)) (nh1_6 : Bool) (rh1_6 : List (List AV)) (x : X36) : Dt (AV × List GB) := .ret ((.int .i64 x), [(.map m0), (.cells [(.int .i64 xh1_0), (.int .i64 xh1_1), (.int .i64 xh1_2), (.int .i64 xh1_3), (.int .i64 xh1_4), (.sl 11 nh1_5 rh1_5 .no), (.sl 25 nh1_6 rh1_6 .self), (.mp 0)])])
noncomputable def s36 : FS := guardS [.c (.ex (.gp 1 0))] [.map, .cells [.i .i64, .i .i64, .i .i64, .i .i64, .i .i64, .sl 11 .no, .sl 25 .self, .ex (.mp 0)]] fun xs H => Dt.opt (v36 (gm H 0) (gc H 1 0).intOf (gc H 1 1).intOf (gc H 1 2).intOf (gc H 1 3).intOf (gc H 1 4).intOf (gc H 1 5).slNil (gc H 1 5).slRows (gc H 1 6).slNil (gc H 1 6).slRows) (sd36 (gm H 0) (gc H 1 0).intOf (gc H 1 1).intOf (gc H 1 2).intOf (gc H 1 3).intOf (gc H 1 4).intOf (gc H 1 5).slNil (gc H 1 5).slRows (gc H 1 6).slNil (gc H 1 6).slRows)
theorem e36 (m0 : List (List AV × AV)) (xh1_0 : Int) (xh1_1 : Int) (xh1_2 : Int) (xh1_3 : Int) (xh1_4 : Int) (nh1_5 : Bool) (rh1_5 : List (List AV)) (nh1_6 : Bool) (rh1_6 : List (List AV)) (Q : AV × List GB → Prop) : wpN TA (cT cs36) lt36 un36 80 (evFunc TA 36 [(.gp 1 0)] [(.map m0), (.cells [(.int .i64 xh1_0), (.int .i64 xh1_1), (.int .i64 xh1_2), (.int .i64 xh1_3), (.int .i64 xh1_4), (.sl 11 nh1_5 rh1_5 .no), (.sl 25 nh1_6 rh1_6 .self), (.mp 0)])]) Q = (d36 m0 xh1_0 xh1_1 xh1_2 xh1_3 xh1_4 nh1_5 rh1_5 nh1_6 rh1_6).wp (fun x => Q (sh36 m0 xh1_0 xh1_1 xh1_2 xh1_3 xh1_4 nh1_5 rh1_5 nh1_6 rh1_6 x)) := by kernel_rfl
theorem o36 (m0 : List (List AV × AV)) (xh1_0 : Int) (xh1_1 : Int) (xh1_2 : Int) (xh1_3 : Int) (xh1_4 : Int) (nh1_5 : Bool) (rh1_5 : List (List AV)) (nh1_6 : Bool) (rh1_6 : List (List AV)) : (d36 m0 xh1_0 xh1_1 xh1_2 xh1_3 xh1_4 nh1_5 rh1_5 nh1_6 rh1_6).obs := by
  unfold d36
  repeat' (first | exact trivial | apply And.intro)
theorem k36 : FRight TA 36 s36 := fright (D := fun xs H => d36 (gm H 0) (gc H 1 0).intOf (gc H 1 1).intOf (gc H 1 2).intOf (gc H 1 3).intOf (gc H 1 4).intOf (gc H 1 5).slNil (gc H 1 5).slRows (gc H 1 6).slNil (gc H 1 6).slRows) (sh := fun xs H => sh36 (gm H 0) (gc H 1 0).intOf (gc H 1 1).intOf (gc H 1 2).intOf (gc H 1 3).intOf (gc H 1 4).intOf (gc H 1 5).slNil (gc H 1 5).slRows (gc H 1 6).slNil (gc H 1 6).slRows) cr36 (fun xs H Q => e36 (gm H 0) (gc H 1 0).intOf (gc H 1 1).intOf (gc H 1 2).intOf (gc H 1 3).intOf (gc H 1 4).intOf (gc H 1 5).slNil (gc H 1 5).slRows (gc H 1 6).slNil (gc H 1 6).slRows Q) (fun xs H => o36 (gm H 0) (gc H 1 0).intOf (gc H 1 1).intOf (gc H 1 2).intOf (gc H 1 3).intOf (gc H 1 4).intOf (gc H 1 5).slNil (gc H 1 5).slRows (gc H 1 6).slNil (gc H 1 6).slRows) (by intro xs H x r h; exact (Option.some.inj h).symm)
/-! vedette/vedettelaw19.ViewWaits -/
noncomputable def un6 : Nat → Bool := fun _ => false
noncomputable def cs6 : List (Nat × FS) := [(29, s29), (31, s31), (41, s41), (33, s33), (35, s35), (37, s37), (36, s36)]
theorem cr6 : CRight TA (cT cs6) := cT_right (cT_cons k29 (cT_cons k31 (cT_cons k41 (cT_cons k33 (cT_cons k35 (cT_cons k37 (cT_cons k36 cT_nil)))))))
noncomputable def c6_7 : Code := cB (cB (cR (cL (cR (cR (cR (cR (cR (bodyOf Try.f6)))))))))
abbrev P6_7 : Type := Int × (List (List AV × AV)) × Int × Int × Bool × (List (List AV)) × Bool × (List (List AV))
abbrev Y6_7 : Type := Nat × (List (List AV × AV)) × Int × Int × Bool × (List (List AV)) × Bool × (List (List AV)) × (List (List AV × AV)) × Int × Int × Bool × (List (List AV)) × Bool × (List (List AV))
noncomputable def d6_7 (x7 : Int) (x8 : Int) (x9 : Int) (xh1_0 : Int) (xh1_1 : Int) (xh1_2 : Int) (x11 : Int) (m0 : List (List AV × AV)) (xh1_3 : Int) (xh1_4 : Int) (nh1_5 : Bool) (rh1_5 : List (List AV)) (nh1_6 : Bool) (rh1_6 : List (List AV)) : Dt (P6_7 ⊕ Y6_7) :=
  .br (decide (x11 < (wrapF .i64 (x7 * x8))))
  (.br (!(x11 == x9))
    (.br (!(x7 == 0))
      (.br (!(x7 == 0))
        (Dt.opt (v41 x11) fun y3 =>
          Dt.opt (v33 (x11.tmod x7) 0 1 0 (wrapF .i64 (x11.tdiv x7)) false y3 m0 xh1_0 xh1_1 xh1_2 xh1_3 xh1_4 nh1_5 rh1_5 nh1_6 rh1_6) fun y4 =>
          .br (!y4.1)
          (.ret (.inr (0, y4.2.1, y4.2.2.1, y4.2.2.2.1, y4.2.2.2.2.1, y4.2.2.2.2.2.1, y4.2.2.2.2.2.2.1, y4.2.2.2.2.2.2.2, default, default, default, default, default, default, default)))
          (.ret (.inl ((wrapF .i64 (x11 + 1)), y4.2.1, y4.2.2.1, y4.2.2.2.1, y4.2.2.2.2.1, y4.2.2.2.2.2.1, y4.2.2.2.2.2.2.1, y4.2.2.2.2.2.2.2)))) (.fail)) (.fail))
    (.ret (.inl ((wrapF .i64 (x11 + 1)), m0, xh1_3, xh1_4, nh1_5, rh1_5, nh1_6, rh1_6))))
  (.ret (.inr (1, default, default, default, default, default, default, default, m0, xh1_3, xh1_4, nh1_5, rh1_5, nh1_6, rh1_6)))
noncomputable def w6_7 (x7 : Int) (x8 : Int) (x9 : Int) (x11 : Int) (m0 : List (List AV × AV)) (xh1_0 : Int) (xh1_1 : Int) (xh1_2 : Int) (xh1_3 : Int) (xh1_4 : Int) (nh1_5 : Bool) (rh1_5 : List (List AV)) (nh1_6 : Bool) (rh1_6 : List (List AV)) : Option Y6_7 := loopV (fun p : P6_7 => d6_7 x7 x8 x9 xh1_0 xh1_1 xh1_2 p.1 p.2.1 p.2.2.1 p.2.2.2.1 p.2.2.2.2.1 p.2.2.2.2.2.1 p.2.2.2.2.2.2.1 p.2.2.2.2.2.2.2) (x11, m0, xh1_3, xh1_4, nh1_5, rh1_5, nh1_6, rh1_6)
noncomputable def hd6_7 (x7 : Int) (x8 : Int) (x9 : Int) (x11 : Int) (m0 : List (List AV × AV)) (xh1_0 : Int) (xh1_1 : Int) (xh1_2 : Int) (xh1_3 : Int) (xh1_4 : Int) (nh1_5 : Bool) (rh1_5 : List (List AV)) (nh1_6 : Bool) (rh1_6 : List (List AV)) : St := (stAt 119 false [(7, (.int .i64 x7)), (8, (.int .i64 x8)), (9, (.int .i64 x9)), (10, (.gp 1 0)), (11, (.int .i64 x11))] [] [(.map m0), (.cells [(.int .i64 xh1_0), (.int .i64 xh1_1), (.int .i64 xh1_2), (.int .i64 xh1_3), (.int .i64 xh1_4), (.sl 11 nh1_5 rh1_5 .no), (.sl 25 nh1_6 rh1_6 .self), (.mp 0)])])
noncomputable def ex6_7 (x7 : Int) (x8 : Int) (x9 : Int) (xh1_0 : Int) (xh1_1 : Int) (xh1_2 : Int) (x : Y6_7) : Ex × St := bif Nat.beq x.1 0 then (.ret, (stAt 119 false [(6, (.bool false)), (7, (.int .i64 x7)), (8, (.int .i64 x8)), (9, (.int .i64 x9)), (10, (.gp 1 0))] [] [(.map x.2.1), (.cells [(.int .i64 xh1_0), (.int .i64 xh1_1), (.int .i64 xh1_2), (.int .i64 x.2.2.1), (.int .i64 x.2.2.2.1), (.sl 11 x.2.2.2.2.1 x.2.2.2.2.2.1 .no), (.sl 25 x.2.2.2.2.2.2.1 x.2.2.2.2.2.2.2.1 .self), (.mp 0)])])) else ((.exit 0), (stAt 119 false [(7, (.int .i64 x7)), (8, (.int .i64 x8)), (9, (.int .i64 x9)), (10, (.gp 1 0))] [] [(.map x.2.2.2.2.2.2.2.2.1), (.cells [(.int .i64 xh1_0), (.int .i64 xh1_1), (.int .i64 xh1_2), (.int .i64 x.2.2.2.2.2.2.2.2.2.1), (.int .i64 x.2.2.2.2.2.2.2.2.2.2.1), (.sl 11 x.2.2.2.2.2.2.2.2.2.2.2.1 x.2.2.2.2.2.2.2.2.2.2.2.2.1 .no), (.sl 25 x.2.2.2.2.2.2.2.2.2.2.2.2.2.1 x.2.2.2.2.2.2.2.2.2.2.2.2.2.2 .self), (.mp 0)])]))
noncomputable def xd6_7 (x7 : Int) (x8 : Int) (x9 : Int) (xh1_0 : Int) (xh1_1 : Int) (xh1_2 : Int) (x : Y6_7) : Dt (Ex × St) := .br (Nat.beq x.1 0) (.ret (.ret, (stAt 119 false [(6, (.bool false)), (7, (.int .i64 x7)), (8, (.int .i64 x8)), (9, (.int .i64 x9)), (10, (.gp 1 0))] [] [(.map x.2.1), (.cells [(.int .i64 xh1_0), (.int .i64 xh1_1), (.int .i64 xh1_2), (.int .i64 x.2.2.1), (.int .i64 x.2.2.2.1), (.sl 11 x.2.2.2.2.1 x.2.2.2.2.2.1 .no), (.sl 25 x.2.2.2.2.2.2.1 x.2.2.2.2.2.2.2.1 .self), (.mp 0)])]))) (.ret ((.exit 0), (stAt 119 false [(7, (.int .i64 x7)), (8, (.int .i64 x8)), (9, (.int .i64 x9)), (10, (.gp 1 0))] [] [(.map x.2.2.2.2.2.2.2.2.1), (.cells [(.int .i64 xh1_0), (.int .i64 xh1_1), (.int .i64 xh1_2), (.int .i64 x.2.2.2.2.2.2.2.2.2.1), (.int .i64 x.2.2.2.2.2.2.2.2.2.2.1), (.sl 11 x.2.2.2.2.2.2.2.2.2.2.2.1 x.2.2.2.2.2.2.2.2.2.2.2.2.1 .no), (.sl 25 x.2.2.2.2.2.2.2.2.2.2.2.2.2.1 x.2.2.2.2.2.2.2.2.2.2.2.2.2.2 .self), (.mp 0)])])))
noncomputable def lt6 : LT := fun rid st => bif Nat.beq rid 7 then Dt.opt (w6_7 (nth st.tm 7).intOf (nth st.tm 8).intOf (nth st.tm 9).intOf (nth st.tm 11).intOf (gm st.H 0) (gc st.H 1 0).intOf (gc st.H 1 1).intOf (gc st.H 1 2).intOf (gc st.H 1 3).intOf (gc st.H 1 4).intOf (gc st.H 1 5).slNil (gc st.H 1 5).slRows (gc st.H 1 6).slNil (gc st.H 1 6).slRows) (xd6_7 (nth st.tm 7).intOf (nth st.tm 8).intOf (nth st.tm 9).intOf (gc st.H 1 0).intOf (gc st.H 1 1).intOf (gc st.H 1 2).intOf) else .fail
theorem r6_7 (x7 : Int) (x8 : Int) (x9 : Int) (xh1_0 : Int) (xh1_1 : Int) (xh1_2 : Int) (p : P6_7) (Q : Ex × St → Prop) : wpN TA (cT cs6) lt6 un6 80 (roundR TA 6 7 c6_7 (hd6_7 x7 x8 x9 p.1 p.2.1 xh1_0 xh1_1 xh1_2 p.2.2.1 p.2.2.2.1 p.2.2.2.2.1 p.2.2.2.2.2.1 p.2.2.2.2.2.2.1 p.2.2.2.2.2.2.2)) Q = (d6_7 x7 x8 x9 xh1_0 xh1_1 xh1_2 p.1 p.2.1 p.2.2.1 p.2.2.2.1 p.2.2.2.2.1 p.2.2.2.2.2.1 p.2.2.2.2.2.2.1 p.2.2.2.2.2.2.2).wp (fun o => Sum.rec (fun p => Q (.normal, hd6_7 x7 x8 x9 p.1 p.2.1 xh1_0 xh1_1 xh1_2 p.2.2.1 p.2.2.2.1 p.2.2.2.2.1 p.2.2.2.2.2.1 p.2.2.2.2.2.2.1 p.2.2.2.2.2.2.2)) (fun x => Q (ex6_7 x7 x8 x9 xh1_0 xh1_1 xh1_2 x)) o) := by kernel_rfl
theorem ob6_7 (x7 : Int) (x8 : Int) (x9 : Int) (xh1_0 : Int) (xh1_1 : Int) (xh1_2 : Int) (p : P6_7) : (d6_7 x7 x8 x9 xh1_0 xh1_1 xh1_2 p.1 p.2.1 p.2.2.1 p.2.2.2.1 p.2.2.2.2.1 p.2.2.2.2.2.1 p.2.2.2.2.2.2.1 p.2.2.2.2.2.2.2).obs := by
  unfold d6_7
  repeat' (first | exact trivial | apply And.intro)
theorem lok6_7 (x7 : Int) (x8 : Int) (x9 : Int) (x11 : Int) (m0 : List (List AV × AV)) (xh1_0 : Int) (xh1_1 : Int) (xh1_2 : Int) (xh1_3 : Int) (xh1_4 : Int) (nh1_5 : Bool) (rh1_5 : List (List AV)) (nh1_6 : Bool) (rh1_6 : List (List AV)) : LoopOk TA 6 7 c6_7 (hd6_7 x7 x8 x9 x11 m0 xh1_0 xh1_1 xh1_2 xh1_3 xh1_4 nh1_5 rh1_5 nh1_6 rh1_6) (Dt.opt (w6_7 x7 x8 x9 x11 m0 xh1_0 xh1_1 xh1_2 xh1_3 xh1_4 nh1_5 rh1_5 nh1_6 rh1_6) (xd6_7 x7 x8 x9 xh1_0 xh1_1 xh1_2)) :=
  loop_okD cr6 (fun p Q => r6_7 x7 x8 x9 xh1_0 xh1_1 xh1_2 p Q) (fun p => ob6_7 x7 x8 x9 xh1_0 xh1_1 xh1_2 p) (fun x => by
    unfold ex6_7
    repeat' (first | (intro h; cases h; done) | (generalize Nat.beq _ _ = b; cases b))) (fun x r h => by
    simp only [xd6_7, Dt.val_br, Dt.val_ret, ex6_7] at h ⊢
    revert h
    repeat' (first | (intro h; exact (Option.some.inj h).symm) | (generalize Nat.beq _ _ = b; cases b))) (x11, m0, xh1_3, xh1_4, nh1_5, rh1_5, nh1_6, rh1_6)
abbrev X6 : Type := Bool × (List (List AV × AV)) × Int × Int × Int × Bool × (List (List AV)) × Bool × (List (List AV))
noncomputable def d6 (x0 : Int) (x1 : Int) (x2 : Int) : Dt X6 :=
  Dt.opt (v29) fun y1 =>
  .br (!((wrapF .i64 ((wrapF .i64 ((wrapF .i64 (x0.tmod 3)) + 2)) * (wrapF .i64 ((wrapF .i64 (x1.tmod 8)) + 1)))) == 0))
  (Dt.opt (v31 0 1 (wrapF .i64 ((wrapF .i64 (x0.tmod 3)) + 2))) fun y2 =>
    .ob (LoopOk TA 6 7 c6_7 (hd6_7 (wrapF .i64 ((wrapF .i64 (x0.tmod 3)) + 2)) (wrapF .i64 ((wrapF .i64 (x1.tmod 8)) + 1)) ((wrapF .i64 x2).tmod (wrapF .i64 ((wrapF .i64 ((wrapF .i64 (x0.tmod 3)) + 2)) * (wrapF .i64 ((wrapF .i64 (x1.tmod 8)) + 1))))) 0 [] 0 1 y2 (-1) (-1) true [] true []) (Dt.opt (w6_7 (wrapF .i64 ((wrapF .i64 (x0.tmod 3)) + 2)) (wrapF .i64 ((wrapF .i64 (x1.tmod 8)) + 1)) ((wrapF .i64 x2).tmod (wrapF .i64 ((wrapF .i64 ((wrapF .i64 (x0.tmod 3)) + 2)) * (wrapF .i64 ((wrapF .i64 (x1.tmod 8)) + 1))))) 0 [] 0 1 y2 (-1) (-1) true [] true []) (xd6_7 (wrapF .i64 ((wrapF .i64 (x0.tmod 3)) + 2)) (wrapF .i64 ((wrapF .i64 (x1.tmod 8)) + 1)) ((wrapF .i64 x2).tmod (wrapF .i64 ((wrapF .i64 ((wrapF .i64 (x0.tmod 3)) + 2)) * (wrapF .i64 ((wrapF .i64 (x1.tmod 8)) + 1))))) 0 1 y2)))
    (Dt.opt (w6_7 (wrapF .i64 ((wrapF .i64 (x0.tmod 3)) + 2)) (wrapF .i64 ((wrapF .i64 (x1.tmod 8)) + 1)) ((wrapF .i64 x2).tmod (wrapF .i64 ((wrapF .i64 ((wrapF .i64 (x0.tmod 3)) + 2)) * (wrapF .i64 ((wrapF .i64 (x1.tmod 8)) + 1))))) 0 [] 0 1 y2 (-1) (-1) true [] true []) fun y5 =>
      .br (Nat.beq y5.1 0)
      (.ret (false, y5.2.1, y2, y5.2.2.1, y5.2.2.2.1, y5.2.2.2.2.1, y5.2.2.2.2.2.1, y5.2.2.2.2.2.2.1, y5.2.2.2.2.2.2.2.1))
      (.br (!((wrapF .i64 ((wrapF .i64 (x0.tmod 3)) + 2)) == 0))
        (Dt.opt (v35 y5.2.2.2.2.2.2.2.2.1 0 1 y2 y5.2.2.2.2.2.2.2.2.2.1 y5.2.2.2.2.2.2.2.2.2.2.1 y5.2.2.2.2.2.2.2.2.2.2.2.1 y5.2.2.2.2.2.2.2.2.2.2.2.2.1 y5.2.2.2.2.2.2.2.2.2.2.2.2.2.1 y5.2.2.2.2.2.2.2.2.2.2.2.2.2.2) fun y6 =>
          .br (!(y5.2.2.2.2.2.2.2.2.2.1 == (wrapF .i64 ((wrapF .i64 (((wrapF .i64 x2).tmod (wrapF .i64 ((wrapF .i64 ((wrapF .i64 (x0.tmod 3)) + 2)) * (wrapF .i64 ((wrapF .i64 (x1.tmod 8)) + 1))))).tdiv (wrapF .i64 ((wrapF .i64 (x0.tmod 3)) + 2)))) - 1))))
          (.ret (false, y5.2.2.2.2.2.2.2.2.1, y2, y5.2.2.2.2.2.2.2.2.2.1, y5.2.2.2.2.2.2.2.2.2.2.1, y5.2.2.2.2.2.2.2.2.2.2.2.1, y5.2.2.2.2.2.2.2.2.2.2.2.2.1, y5.2.2.2.2.2.2.2.2.2.2.2.2.2.1, y5.2.2.2.2.2.2.2.2.2.2.2.2.2.2))
          (Dt.opt (v37 y5.2.2.2.2.2.2.2.2.1 0 1 y2 y5.2.2.2.2.2.2.2.2.2.1 y5.2.2.2.2.2.2.2.2.2.2.1 y5.2.2.2.2.2.2.2.2.2.2.2.1 y5.2.2.2.2.2.2.2.2.2.2.2.2.1 y5.2.2.2.2.2.2.2.2.2.2.2.2.2.1 y5.2.2.2.2.2.2.2.2.2.2.2.2.2.2) fun y7 =>
            .br (!((y7.2.length : Int) == (wrapF .i64 ((wrapF .i64 (((wrapF .i64 x2).tmod (wrapF .i64 ((wrapF .i64 ((wrapF .i64 (x0.tmod 3)) + 2)) * (wrapF .i64 ((wrapF .i64 (x1.tmod 8)) + 1))))).tdiv (wrapF .i64 ((wrapF .i64 (x0.tmod 3)) + 2)))) * (wrapF .i64 ((wrapF .i64 (x0.tmod 3)) + 2))))))
            (.ret (false, y5.2.2.2.2.2.2.2.2.1, y2, y5.2.2.2.2.2.2.2.2.2.1, y5.2.2.2.2.2.2.2.2.2.2.1, y5.2.2.2.2.2.2.2.2.2.2.2.1, y5.2.2.2.2.2.2.2.2.2.2.2.2.1, y5.2.2.2.2.2.2.2.2.2.2.2.2.2.1, y5.2.2.2.2.2.2.2.2.2.2.2.2.2.2))
            (Dt.opt (v36 y5.2.2.2.2.2.2.2.2.1 0 1 y2 y5.2.2.2.2.2.2.2.2.2.1 y5.2.2.2.2.2.2.2.2.2.2.1 y5.2.2.2.2.2.2.2.2.2.2.2.1 y5.2.2.2.2.2.2.2.2.2.2.2.2.1 y5.2.2.2.2.2.2.2.2.2.2.2.2.2.1 y5.2.2.2.2.2.2.2.2.2.2.2.2.2.2) fun y8 =>
              .br (!(y8 == (wrapF .i64 ((wrapF .i64 ((wrapF .i64 ((wrapF .i64 ((wrapF .i64 (x0.tmod 3)) + 2)) * (wrapF .i64 ((wrapF .i64 (x1.tmod 8)) + 1)))) - 1)) - (wrapF .i64 ((wrapF .i64 (((wrapF .i64 x2).tmod (wrapF .i64 ((wrapF .i64 ((wrapF .i64 (x0.tmod 3)) + 2)) * (wrapF .i64 ((wrapF .i64 (x1.tmod 8)) + 1))))).tdiv (wrapF .i64 ((wrapF .i64 (x0.tmod 3)) + 2)))) * (wrapF .i64 ((wrapF .i64 (x0.tmod 3)) + 2))))))))
              (.ret (false, y5.2.2.2.2.2.2.2.2.1, y2, y5.2.2.2.2.2.2.2.2.2.1, y5.2.2.2.2.2.2.2.2.2.2.1, y5.2.2.2.2.2.2.2.2.2.2.2.1, y5.2.2.2.2.2.2.2.2.2.2.2.2.1, y5.2.2.2.2.2.2.2.2.2.2.2.2.2.1, y5.2.2.2.2.2.2.2.2.2.2.2.2.2.2))
              (.br (!((wrapF .i64 ((wrapF .i64 (x0.tmod 3)) + 2)) == 0))
                (.br (!((wrapF .i64 ((wrapF .i64 (x0.tmod 3)) + 2)) == 0))
                  (Dt.opt (v41 ((wrapF .i64 x2).tmod (wrapF .i64 ((wrapF .i64 ((wrapF .i64 (x0.tmod 3)) + 2)) * (wrapF .i64 ((wrapF .i64 (x1.tmod 8)) + 1)))))) fun y9 =>
                    Dt.opt (v33 (((wrapF .i64 x2).tmod (wrapF .i64 ((wrapF .i64 ((wrapF .i64 (x0.tmod 3)) + 2)) * (wrapF .i64 ((wrapF .i64 (x1.tmod 8)) + 1))))).tmod (wrapF .i64 ((wrapF .i64 (x0.tmod 3)) + 2))) 0 1 0 (wrapF .i64 (((wrapF .i64 x2).tmod (wrapF .i64 ((wrapF .i64 ((wrapF .i64 (x0.tmod 3)) + 2)) * (wrapF .i64 ((wrapF .i64 (x1.tmod 8)) + 1))))).tdiv (wrapF .i64 ((wrapF .i64 (x0.tmod 3)) + 2)))) false y9 y5.2.2.2.2.2.2.2.2.1 0 1 y2 y5.2.2.2.2.2.2.2.2.2.1 y5.2.2.2.2.2.2.2.2.2.2.1 y5.2.2.2.2.2.2.2.2.2.2.2.1 y5.2.2.2.2.2.2.2.2.2.2.2.2.1 y5.2.2.2.2.2.2.2.2.2.2.2.2.2.1 y5.2.2.2.2.2.2.2.2.2.2.2.2.2.2) fun y10 =>
                    .br y10.1
                    (Dt.opt (v35 y10.2.1 0 1 y2 y10.2.2.1 y10.2.2.2.1 y10.2.2.2.2.1 y10.2.2.2.2.2.1 y10.2.2.2.2.2.2.1 y10.2.2.2.2.2.2.2) fun y11 =>
                      .br (y10.2.2.1 == (wrapF .i64 ((wrapF .i64 ((wrapF .i64 (x1.tmod 8)) + 1)) - 1)))
                      (Dt.opt (v37 y10.2.1 0 1 y2 y10.2.2.1 y10.2.2.2.1 y10.2.2.2.2.1 y10.2.2.2.2.2.1 y10.2.2.2.2.2.2.1 y10.2.2.2.2.2.2.2) fun y12 =>
                        .br ((y12.2.length : Int) == (wrapF .i64 ((wrapF .i64 ((wrapF .i64 (x0.tmod 3)) + 2)) * (wrapF .i64 ((wrapF .i64 (x1.tmod 8)) + 1)))))
                        (Dt.opt (v36 y10.2.1 0 1 y2 y10.2.2.1 y10.2.2.2.1 y10.2.2.2.2.1 y10.2.2.2.2.2.1 y10.2.2.2.2.2.2.1 y10.2.2.2.2.2.2.2) fun y13 =>
                          .ret ((y13 == 0), y10.2.1, y2, y10.2.2.1, y10.2.2.2.1, y10.2.2.2.2.1, y10.2.2.2.2.2.1, y10.2.2.2.2.2.2.1, y10.2.2.2.2.2.2.2))
                        (.ret (false, y10.2.1, y2, y10.2.2.1, y10.2.2.2.1, y10.2.2.2.2.1, y10.2.2.2.2.2.1, y10.2.2.2.2.2.2.1, y10.2.2.2.2.2.2.2)))
                      (.ret (false, y10.2.1, y2, y10.2.2.1, y10.2.2.2.1, y10.2.2.2.2.1, y10.2.2.2.2.2.1, y10.2.2.2.2.2.2.1, y10.2.2.2.2.2.2.2)))
                    (.ret (false, y10.2.1, y2, y10.2.2.1, y10.2.2.2.1, y10.2.2.2.2.1, y10.2.2.2.2.2.1, y10.2.2.2.2.2.2.1, y10.2.2.2.2.2.2.2))) (.fail)) (.fail))))) (.fail)))) (.fail)
noncomputable def v6 (x0 : Int) (x1 : Int) (x2 : Int) : Option X6 := (d6 x0 x1 x2).val
noncomputable def sh6 (x0 : Int) (x1 : Int) (x2 : Int) (x : X6) : AV × List GB := ((.bool x.1), [(.map x.2.1), (.cells [(.int .i64 0), (.int .i64 1), (.int .i64 x.2.2.1), (.int .i64 x.2.2.2.1), (.int .i64 x.2.2.2.2.1), (.sl 11 x.2.2.2.2.2.1 x.2.2.2.2.2.2.1 .no), (.sl 25 x.2.2.2.2.2.2.2.1 x.2.2.2.2.2.2.2.2 .self), (.mp 0)])])
noncomputable def sd6 (x0 : Int) (x1 : Int) (x2 : Int) (x : X6) : Dt (AV × List GB) := .ret ((.bool x.1), [(.map x.2.1), (.cells [(.int .i64 0), (.int .i64 1), (.int .i64 x.2.2.1), (.int .i64 x.2.2.2.1), (.int .i64 x.2.2.2.2.1), (.sl 11 x.2.2.2.2.2.1 x.2.2.2.2.2.2.1 .no), (.sl 25 x.2.2.2.2.2.2.2.1 x.2.2.2.2.2.2.2.2 .self), (.mp 0)])])
noncomputable def s6 : FS := guardS [.c (.i .u8), .c (.i .u8), .c (.i .u8)] [] fun xs H => Dt.opt (v6 (nth xs 0).intOf (nth xs 1).intOf (nth xs 2).intOf) (sd6 (nth xs 0).intOf (nth xs 1).intOf (nth xs 2).intOf)
theorem e6 (x0 : Int) (x1 : Int) (x2 : Int) (Q : AV × List GB → Prop) : wpN TA (cT cs6) lt6 un6 80 (evFunc TA 6 [(.int .u8 x0), (.int .u8 x1), (.int .u8 x2)] []) Q = (d6 x0 x1 x2).wp (fun x => Q (sh6 x0 x1 x2 x)) := by kernel_rfl
theorem o6 (x0 : Int) (x1 : Int) (x2 : Int) : (d6 x0 x1 x2).obs := by
  unfold d6
  repeat' (first | exact trivial | apply lok6_7 | apply And.intro)
theorem k6 : FRight TA 6 s6 := fright (D := fun xs H => d6 (nth xs 0).intOf (nth xs 1).intOf (nth xs 2).intOf) (sh := fun xs H => sh6 (nth xs 0).intOf (nth xs 1).intOf (nth xs 2).intOf) cr6 (fun xs H Q => e6 (nth xs 0).intOf (nth xs 1).intOf (nth xs 2).intOf Q) (fun xs H => o6 (nth xs 0).intOf (nth xs 1).intOf (nth xs 2).intOf) (by intro xs H x r h; exact (Option.some.inj h).symm)
end Go.Ab
