/- What functions of the program come to, as branches. Written by a program of this session's (gen.py, lift.py). -/
import Derived.Test.YtmekbgeknkknfaaL1
import Derived.KernelRfl
set_option linter.unusedVariables false
namespace Go.Ab
open Go.Proofs
/-! vedette/vedettelaw19.known -/
theorem n29 : (callN TA 200 29 [] []).map Prod.fst = some (.bool true) := by kernel_rfl
noncomputable def v29 : Option Unit := some ()
noncomputable def s29 : FS := guardS [] [] fun _ _ => Dt.opt v29 fun _ => .ret (.bool true, ((callN TA 200 29 [] []).getD default).2)
theorem k29 : FRight TA 29 s29 := closed_right n29

/-! vedette/view.New -/
noncomputable def un31 : Nat → Bool := fun _ => false
noncomputable def cs31 : List (Nat × FS) := []
theorem cr31 : CRight TA (cT cs31) := cT_right cT_nil
noncomputable def lt31 : LT := fun rid st => .fail
abbrev X31 : Type := Int
noncomputable def d31 (x0 : Int) (x1 : Int) (x2 : Int) : Dt X31 :=
  .ret (if 4 < (if 1 > x2 then 1 else x2) then 4 else (if 1 > x2 then 1 else x2))
noncomputable def v31 (x0 : Int) (x1 : Int) (x2 : Int) : Option X31 := (d31 x0 x1 x2).val
noncomputable def sh31 (x0 : Int) (x1 : Int) (x2 : Int) (x : X31) : AV × List GB := ((.gp 1 0), [(.map []), (.cells [(.int .i64 x0), (.int .i64 x1), (.int .i64 x), (.int .i64 (-1)), (.int .i64 (-1)), (.sl 11 true [] .no), (.sl 25 true [] .self), (.mp 0)])])
noncomputable def sd31 (x0 : Int) (x1 : Int) (x2 : Int) (x : X31) : Dt (AV × List GB) := .ret ((.gp 1 0), [(.map []), (.cells [(.int .i64 x0), (.int .i64 x1), (.int .i64 x), (.int .i64 (-1)), (.int .i64 (-1)), (.sl 11 true [] .no), (.sl 25 true [] .self), (.mp 0)])])
noncomputable def s31 : FS := guardS [.c (.i .i64), .c (.i .i64), .c (.i .i64)] [] fun xs H => Dt.opt (v31 (nth xs 0).intOf (nth xs 1).intOf (nth xs 2).intOf) (sd31 (nth xs 0).intOf (nth xs 1).intOf (nth xs 2).intOf)
theorem e31 (x0 : Int) (x1 : Int) (x2 : Int) (Q : AV × List GB → Prop) : wpN TA (cT cs31) lt31 un31 80 (evFunc TA 31 [(.int .i64 x0), (.int .i64 x1), (.int .i64 x2)] []) Q = (d31 x0 x1 x2).wp (fun x => Q (sh31 x0 x1 x2 x)) := by kernel_rfl
theorem o31 (x0 : Int) (x1 : Int) (x2 : Int) : (d31 x0 x1 x2).obs := by
  unfold d31
  repeat' (first | exact trivial | apply And.intro)
theorem k31 : FRight TA 31 s31 := fright (D := fun xs H => d31 (nth xs 0).intOf (nth xs 1).intOf (nth xs 2).intOf) (sh := fun xs H => sh31 (nth xs 0).intOf (nth xs 1).intOf (nth xs 2).intOf) cr31 (fun xs H Q => e31 (nth xs 0).intOf (nth xs 1).intOf (nth xs 2).intOf Q) (fun xs H => o31 (nth xs 0).intOf (nth xs 1).intOf (nth xs 2).intOf) (by intro xs H x r h; exact (Option.some.inj h).symm)
/-! vedette/vedettelaw19.enter -/
noncomputable def un41 : Nat → Bool := fun _ => false
noncomputable def cs41 : List (Nat × FS) := []
theorem cr41 : CRight TA (cT cs41) := cT_right cT_nil
noncomputable def lt41 : LT := fun rid st => .fail
abbrev X41 : Type := (List (List AV))
noncomputable def d41 (x0 : Int) : Dt X41 :=
  .ret [[(.int .i64 1), (.int .i64 x0), (.int .i64 x0), (.int .i64 0), (.int .i64 0), (.int .i64 0), (.str []), (.int .i64 0), (.str []), (.int .i64 0), (.str []), (.int .i64 0), (.str []), (.int .i64 0), (.int .u8 0), (.int .i64 0), (.int .i64 0), (.int .i64 0), (.str []), (.int .i64 0), (.str []), (.int .i64 0), (.str []), (.int .i64 0), (.str [])]]
noncomputable def v41 (x0 : Int) : Option X41 := (d41 x0).val
noncomputable def sh41 (x0 : Int) (x : X41) : AV × List GB := ((.sl 25 false x (.tc 0)), [])
noncomputable def sd41 (x0 : Int) (x : X41) : Dt (AV × List GB) := .ret ((.sl 25 false x (.tc 0)), [])
noncomputable def s41 : FS := guardS [.c (.i .i64)] [] fun xs H => Dt.opt (v41 (nth xs 0).intOf) (sd41 (nth xs 0).intOf)
theorem e41 (x0 : Int) (Q : AV × List GB → Prop) : wpN TA (cT cs41) lt41 un41 80 (evFunc TA 41 [(.int .i64 x0)] []) Q = (d41 x0).wp (fun x => Q (sh41 x0 x)) := by kernel_rfl
theorem o41 (x0 : Int) : (d41 x0).obs := by
  unfold d41
  repeat' (first | exact trivial | apply And.intro)
theorem k41 : FRight TA 41 s41 := fright (D := fun xs H => d41 (nth xs 0).intOf) (sh := fun xs H => sh41 (nth xs 0).intOf) cr41 (fun xs H Q => e41 (nth xs 0).intOf Q) (fun xs H => o41 (nth xs 0).intOf) (by intro xs H x r h; exact (Option.some.inj h).symm)
/-! (*vedette/view.View).may$1 -/
noncomputable def un154 : Nat → Bool := fun _ => false
noncomputable def cs154 : List (Nat × FS) := [(25, s25)]
theorem cr154 : CRight TA (cT cs154) := cT_right (cT_cons k25 cT_nil)
noncomputable def lt154 : LT := fun rid st => .fail
abbrev X154 : Type := Bool
noncomputable def d154 (x0_0 : Int) (x0_1 : Int) (x0_2 : Int) (x0_3 : Int) (x0_4 : Int) (x0_5 : Int) (s0_6 : List UInt8) (x0_7 : Int) (s0_8 : List UInt8) (x0_9 : Int) (s0_10 : List UInt8) (x0_11 : Int) (s0_12 : List UInt8) (x0_13 : Int) (x0_14 : Int) (x0_15 : Int) (x0_16 : Int) (x0_17 : Int) (s0_18 : List UInt8) (x0_19 : Int) (s0_20 : List UInt8) (x0_21 : Int) (s0_22 : List UInt8) (x0_23 : Int) (s0_24 : List UInt8) : Dt X154 :=
  Dt.opt (v25 x0_0 x0_1 x0_2 x0_3 x0_4 x0_5 s0_6 x0_7 s0_8 x0_9 s0_10 x0_11 s0_12 x0_13 x0_14 x0_15 x0_16 x0_17 s0_18 x0_19 s0_20 x0_21 s0_22 x0_23 s0_24) fun y1 =>
  .ret (!y1)
noncomputable def v154 (x0_0 : Int) (x0_1 : Int) (x0_2 : Int) (x0_3 : Int) (x0_4 : Int) (x0_5 : Int) (s0_6 : List UInt8) (x0_7 : Int) (s0_8 : List UInt8) (x0_9 : Int) (s0_10 : List UInt8) (x0_11 : Int) (s0_12 : List UInt8) (x0_13 : Int) (x0_14 : Int) (x0_15 : Int) (x0_16 : Int) (x0_17 : Int) (s0_18 : List UInt8) (x0_19 : Int) (s0_20 : List UInt8) (x0_21 : Int) (s0_22 : List UInt8) (x0_23 : Int) (s0_24 : List UInt8) : Option X154 := (d154 x0_0 x0_1 x0_2 x0_3 x0_4 x0_5 s0_6 x0_7 s0_8 x0_9 s0_10 x0_11 s0_12 x0_13 x0_14 x0_15 x0_16 x0_17 s0_18 x0_19 s0_20 x0_21 s0_22 x0_23 s0_24).val
noncomputable def sh154 (x0_0 : Int) (x0_1 : Int) (x0_2 : Int) (x0_3 : Int) (x0_4 : Int) (x0_5 : Int) (s0_6 : List UInt8) (x0_7 : Int) (s0_8 : List UInt8) (x0_9 : Int) (s0_10 : List UInt8) (x0_11 : Int) (s0_12 : List UInt8) (x0_13 : Int) (x0_14 : Int) (x0_15 : Int) (x0_16 : Int) (x0_17 : Int) (s0_18 : List UInt8) (x0_19 : Int) (s0_20 : List UInt8) (x0_21 : Int) (s0_22 : List UInt8) (x0_23 : Int) (s0_24 : List UInt8) (x : X154) : AV × List GB := ((.bool x), [])
noncomputable def sd154 (x0_0 : Int) (x0_1 : Int) (x0_2 : Int) (x0_3 : Int) (x0_4 : Int) (x0_5 : Int) (s0_6 : List UInt8) (x0_7 : Int) (s0_8 : List UInt8) (x0_9 : Int) (s0_10 : List UInt8) (x0_11 : Int) (s0_12 : List UInt8) (x0_13 : Int) (x0_14 : Int) (x0_15 : Int) (x0_16 : Int) (x0_17 : Int) (s0_18 : List UInt8) (x0_19 : Int) (s0_20 : List UInt8) (x0_21 : Int) (s0_22 : List UInt8) (x0_23 : Int) (s0_24 : List UInt8) (x : X154) : Dt (AV × List GB) := .ret ((.bool x), [])
noncomputable def s154 : FS := guardS [.agg [.i .i64, .i .i64, .i .i64, .i .i64, .i .i64, .i .i64, .s, .i .i64, .s, .i .i64, .s, .i .i64, .s, .i .i64, .i .u8, .i .i64, .i .i64, .i .i64, .s, .i .i64, .s, .i .i64, .s, .i .i64, .s]] [] fun xs H => Dt.opt (v154 (nth (nth xs 0).cells 0).intOf (nth (nth xs 0).cells 1).intOf (nth (nth xs 0).cells 2).intOf (nth (nth xs 0).cells 3).intOf (nth (nth xs 0).cells 4).intOf (nth (nth xs 0).cells 5).intOf (nth (nth xs 0).cells 6).strOf (nth (nth xs 0).cells 7).intOf (nth (nth xs 0).cells 8).strOf (nth (nth xs 0).cells 9).intOf (nth (nth xs 0).cells 10).strOf (nth (nth xs 0).cells 11).intOf (nth (nth xs 0).cells 12).strOf (nth (nth xs 0).cells 13).intOf (nth (nth xs 0).cells 14).intOf (nth (nth xs 0).cells 15).intOf (nth (nth xs 0).cells 16).intOf (nth (nth xs 0).cells 17).intOf (nth (nth xs 0).cells 18).strOf (nth (nth xs 0).cells 19).intOf (nth (nth xs 0).cells 20).strOf (nth (nth xs 0).cells 21).intOf (nth (nth xs 0).cells 22).strOf (nth (nth xs 0).cells 23).intOf (nth (nth xs 0).cells 24).strOf) (sd154 (nth (nth xs 0).cells 0).intOf (nth (nth xs 0).cells 1).intOf (nth (nth xs 0).cells 2).intOf (nth (nth xs 0).cells 3).intOf (nth (nth xs 0).cells 4).intOf (nth (nth xs 0).cells 5).intOf (nth (nth xs 0).cells 6).strOf (nth (nth xs 0).cells 7).intOf (nth (nth xs 0).cells 8).strOf (nth (nth xs 0).cells 9).intOf (nth (nth xs 0).cells 10).strOf (nth (nth xs 0).cells 11).intOf (nth (nth xs 0).cells 12).strOf (nth (nth xs 0).cells 13).intOf (nth (nth xs 0).cells 14).intOf (nth (nth xs 0).cells 15).intOf (nth (nth xs 0).cells 16).intOf (nth (nth xs 0).cells 17).intOf (nth (nth xs 0).cells 18).strOf (nth (nth xs 0).cells 19).intOf (nth (nth xs 0).cells 20).strOf (nth (nth xs 0).cells 21).intOf (nth (nth xs 0).cells 22).strOf (nth (nth xs 0).cells 23).intOf (nth (nth xs 0).cells 24).strOf)
theorem e154 (x0_0 : Int) (x0_1 : Int) (x0_2 : Int) (x0_3 : Int) (x0_4 : Int) (x0_5 : Int) (s0_6 : List UInt8) (x0_7 : Int) (s0_8 : List UInt8) (x0_9 : Int) (s0_10 : List UInt8) (x0_11 : Int) (s0_12 : List UInt8) (x0_13 : Int) (x0_14 : Int) (x0_15 : Int) (x0_16 : Int) (x0_17 : Int) (s0_18 : List UInt8) (x0_19 : Int) (s0_20 : List UInt8) (x0_21 : Int) (s0_22 : List UInt8) (x0_23 : Int) (s0_24 : List UInt8) (Q : AV × List GB → Prop) : wpN TA (cT cs154) lt154 un154 80 (evFunc TA 154 [(.agg [(.int .i64 x0_0), (.int .i64 x0_1), (.int .i64 x0_2), (.int .i64 x0_3), (.int .i64 x0_4), (.int .i64 x0_5), (.str s0_6), (.int .i64 x0_7), (.str s0_8), (.int .i64 x0_9), (.str s0_10), (.int .i64 x0_11), (.str s0_12), (.int .i64 x0_13), (.int .u8 x0_14), (.int .i64 x0_15), (.int .i64 x0_16), (.int .i64 x0_17), (.str s0_18), (.int .i64 x0_19), (.str s0_20), (.int .i64 x0_21), (.str s0_22), (.int .i64 x0_23), (.str s0_24)])] []) Q = (d154 x0_0 x0_1 x0_2 x0_3 x0_4 x0_5 s0_6 x0_7 s0_8 x0_9 s0_10 x0_11 s0_12 x0_13 x0_14 x0_15 x0_16 x0_17 s0_18 x0_19 s0_20 x0_21 s0_22 x0_23 s0_24).wp (fun x => Q (sh154 x0_0 x0_1 x0_2 x0_3 x0_4 x0_5 s0_6 x0_7 s0_8 x0_9 s0_10 x0_11 s0_12 x0_13 x0_14 x0_15 x0_16 x0_17 s0_18 x0_19 s0_20 x0_21 s0_22 x0_23 s0_24 x)) := by kernel_rfl
theorem o154 (x0_0 : Int) (x0_1 : Int) (x0_2 : Int) (x0_3 : Int) (x0_4 : Int) (x0_5 : Int) (s0_6 : List UInt8) (x0_7 : Int) (s0_8 : List UInt8) (x0_9 : Int) (s0_10 : List UInt8) (x0_11 : Int) (s0_12 : List UInt8) (x0_13 : Int) (x0_14 : Int) (x0_15 : Int) (x0_16 : Int) (x0_17 : Int) (s0_18 : List UInt8) (x0_19 : Int) (s0_20 : List UInt8) (x0_21 : Int) (s0_22 : List UInt8) (x0_23 : Int) (s0_24 : List UInt8) : (d154 x0_0 x0_1 x0_2 x0_3 x0_4 x0_5 s0_6 x0_7 s0_8 x0_9 s0_10 x0_11 s0_12 x0_13 x0_14 x0_15 x0_16 x0_17 s0_18 x0_19 s0_20 x0_21 s0_22 x0_23 s0_24).obs := by
  unfold d154
  repeat' (first | exact trivial | apply And.intro)
theorem k154 : FRight TA 154 s154 := fright (D := fun xs H => d154 (nth (nth xs 0).cells 0).intOf (nth (nth xs 0).cells 1).intOf (nth (nth xs 0).cells 2).intOf (nth (nth xs 0).cells 3).intOf (nth (nth xs 0).cells 4).intOf (nth (nth xs 0).cells 5).intOf (nth (nth xs 0).cells 6).strOf (nth (nth xs 0).cells 7).intOf (nth (nth xs 0).cells 8).strOf (nth (nth xs 0).cells 9).intOf (nth (nth xs 0).cells 10).strOf (nth (nth xs 0).cells 11).intOf (nth (nth xs 0).cells 12).strOf (nth (nth xs 0).cells 13).intOf (nth (nth xs 0).cells 14).intOf (nth (nth xs 0).cells 15).intOf (nth (nth xs 0).cells 16).intOf (nth (nth xs 0).cells 17).intOf (nth (nth xs 0).cells 18).strOf (nth (nth xs 0).cells 19).intOf (nth (nth xs 0).cells 20).strOf (nth (nth xs 0).cells 21).intOf (nth (nth xs 0).cells 22).strOf (nth (nth xs 0).cells 23).intOf (nth (nth xs 0).cells 24).strOf) (sh := fun xs H => sh154 (nth (nth xs 0).cells 0).intOf (nth (nth xs 0).cells 1).intOf (nth (nth xs 0).cells 2).intOf (nth (nth xs 0).cells 3).intOf (nth (nth xs 0).cells 4).intOf (nth (nth xs 0).cells 5).intOf (nth (nth xs 0).cells 6).strOf (nth (nth xs 0).cells 7).intOf (nth (nth xs 0).cells 8).strOf (nth (nth xs 0).cells 9).intOf (nth (nth xs 0).cells 10).strOf (nth (nth xs 0).cells 11).intOf (nth (nth xs 0).cells 12).strOf (nth (nth xs 0).cells 13).intOf (nth (nth xs 0).cells 14).intOf (nth (nth xs 0).cells 15).intOf (nth (nth xs 0).cells 16).intOf (nth (nth xs 0).cells 17).intOf (nth (nth xs 0).cells 18).strOf (nth (nth xs 0).cells 19).intOf (nth (nth xs 0).cells 20).strOf (nth (nth xs 0).cells 21).intOf (nth (nth xs 0).cells 22).strOf (nth (nth xs 0).cells 23).intOf (nth (nth xs 0).cells 24).strOf) cr154 (fun xs H Q => e154 (nth (nth xs 0).cells 0).intOf (nth (nth xs 0).cells 1).intOf (nth (nth xs 0).cells 2).intOf (nth (nth xs 0).cells 3).intOf (nth (nth xs 0).cells 4).intOf (nth (nth xs 0).cells 5).intOf (nth (nth xs 0).cells 6).strOf (nth (nth xs 0).cells 7).intOf (nth (nth xs 0).cells 8).strOf (nth (nth xs 0).cells 9).intOf (nth (nth xs 0).cells 10).strOf (nth (nth xs 0).cells 11).intOf (nth (nth xs 0).cells 12).strOf (nth (nth xs 0).cells 13).intOf (nth (nth xs 0).cells 14).intOf (nth (nth xs 0).cells 15).intOf (nth (nth xs 0).cells 16).intOf (nth (nth xs 0).cells 17).intOf (nth (nth xs 0).cells 18).strOf (nth (nth xs 0).cells 19).intOf (nth (nth xs 0).cells 20).strOf (nth (nth xs 0).cells 21).intOf (nth (nth xs 0).cells 22).strOf (nth (nth xs 0).cells 23).intOf (nth (nth xs 0).cells 24).strOf Q) (fun xs H => o154 (nth (nth xs 0).cells 0).intOf (nth (nth xs 0).cells 1).intOf (nth (nth xs 0).cells 2).intOf (nth (nth xs 0).cells 3).intOf (nth (nth xs 0).cells 4).intOf (nth (nth xs 0).cells 5).intOf (nth (nth xs 0).cells 6).strOf (nth (nth xs 0).cells 7).intOf (nth (nth xs 0).cells 8).strOf (nth (nth xs 0).cells 9).intOf (nth (nth xs 0).cells 10).strOf (nth (nth xs 0).cells 11).intOf (nth (nth xs 0).cells 12).strOf (nth (nth xs 0).cells 13).intOf (nth (nth xs 0).cells 14).intOf (nth (nth xs 0).cells 15).intOf (nth (nth xs 0).cells 16).intOf (nth (nth xs 0).cells 17).intOf (nth (nth xs 0).cells 18).strOf (nth (nth xs 0).cells 19).intOf (nth (nth xs 0).cells 20).strOf (nth (nth xs 0).cells 21).intOf (nth (nth xs 0).cells 22).strOf (nth (nth xs 0).cells 23).intOf (nth (nth xs 0).cells 24).strOf) (by intro xs H x r h; exact (Option.some.inj h).symm)
/-! slices.IndexFunc[[]vedette/api.Event,vedette/api.Event] -/
noncomputable def un162 : Nat → Bool := fun _ => false
noncomputable def cs162 : List (Nat × FS) := [(154, s154)]
theorem cr162 : CRight TA (cT cs162) := cT_right (cT_cons k154 cT_nil)
noncomputable def c162_2 : Code := cB (cB (cR (cL (cR (bodyOf Try.f162)))))
abbrev P162_2 : Type := Int
abbrev Y162_2 : Type := Nat × Int
noncomputable def d162_2 (n0 : Bool) (r0 : List (List AV)) (x7 : Int) (x8 : Int) : Dt (P162_2 ⊕ Y162_2) :=
  .br (decide (x8 < x7))
  (.br (((decide (0 ≤ x8)) && (decide (x8 < (r0.length : Int)))) && true)
    (.br (epOk [(.i .i64), (.i .i64), (.i .i64), (.i .i64), (.i .i64), (.i .i64), .s, (.i .i64), .s, (.i .i64), .s, (.i .i64), .s, (.i .i64), (.i .u8), (.i .i64), (.i .i64), (.i .i64), .s, (.i .i64), .s, (.i .i64), .s, (.i .i64), .s] (r0.getD x8.toNat []) 0)
      (Dt.opt (v154 ((nth (r0.getD x8.toNat []) 0).intOf) ((nth (r0.getD x8.toNat []) 1).intOf) ((nth (r0.getD x8.toNat []) 2).intOf) ((nth (r0.getD x8.toNat []) 3).intOf) ((nth (r0.getD x8.toNat []) 4).intOf) ((nth (r0.getD x8.toNat []) 5).intOf) ((nth (r0.getD x8.toNat []) 6).strOf) ((nth (r0.getD x8.toNat []) 7).intOf) ((nth (r0.getD x8.toNat []) 8).strOf) ((nth (r0.getD x8.toNat []) 9).intOf) ((nth (r0.getD x8.toNat []) 10).strOf) ((nth (r0.getD x8.toNat []) 11).intOf) ((nth (r0.getD x8.toNat []) 12).strOf) ((nth (r0.getD x8.toNat []) 13).intOf) ((nth (r0.getD x8.toNat []) 14).intOf) ((nth (r0.getD x8.toNat []) 15).intOf) ((nth (r0.getD x8.toNat []) 16).intOf) ((nth (r0.getD x8.toNat []) 17).intOf) ((nth (r0.getD x8.toNat []) 18).strOf) ((nth (r0.getD x8.toNat []) 19).intOf) ((nth (r0.getD x8.toNat []) 20).strOf) ((nth (r0.getD x8.toNat []) 21).intOf) ((nth (r0.getD x8.toNat []) 22).strOf) ((nth (r0.getD x8.toNat []) 23).intOf) ((nth (r0.getD x8.toNat []) 24).strOf)) fun y1 =>
        .br y1
        (.ret (.inr (0, x8)))
        (.ret (.inl (wrapF .i64 (x8 + 1))))) (.fail)) (.fail))
  (.ret (.inr (1, default)))
noncomputable def w162_2 (n0 : Bool) (r0 : List (List AV)) (x7 : Int) (x8 : Int) : Option Y162_2 := loopV (fun p : P162_2 => d162_2 n0 r0 x7 p) x8
noncomputable def hd162_2 (n0 : Bool) (r0 : List (List AV)) (x7 : Int) (x8 : Int) : St := (stAt 19 false [(0, (.sl 25 n0 r0 .no)), (1, (.fn 154 [])), (7, (.int .i64 x7)), (8, (.int .i64 x8))] [] [])
noncomputable def ex162_2 (n0 : Bool) (r0 : List (List AV)) (x7 : Int) (x : Y162_2) : Ex × St := bif Nat.beq x.1 0 then (.ret, (stAt 19 false [(4, (.int .i64 x.2))] [] [])) else ((.exit 0), (stAt 19 false [] [] []))
noncomputable def xd162_2 (n0 : Bool) (r0 : List (List AV)) (x7 : Int) (x : Y162_2) : Dt (Ex × St) := .br (Nat.beq x.1 0) (.ret (.ret, (stAt 19 false [(4, (.int .i64 x.2))] [] []))) (.ret ((.exit 0), (stAt 19 false [] [] [])))
noncomputable def lt162 : LT := fun rid st => bif Nat.beq rid 2 then Dt.opt (w162_2 (nth st.tm 0).slNil (nth st.tm 0).slRows (nth st.tm 7).intOf (nth st.tm 8).intOf) (xd162_2 (nth st.tm 0).slNil (nth st.tm 0).slRows (nth st.tm 7).intOf) else .fail
theorem r162_2 (n0 : Bool) (r0 : List (List AV)) (x7 : Int) (p : P162_2) (Q : Ex × St → Prop) : wpN TA (cT cs162) lt162 un162 80 (roundR TA 162 2 c162_2 (hd162_2 n0 r0 x7 p)) Q = (d162_2 n0 r0 x7 p).wp (fun o => Sum.rec (fun p => Q (.normal, hd162_2 n0 r0 x7 p)) (fun x => Q (ex162_2 n0 r0 x7 x)) o) := by kernel_rfl
theorem ob162_2 (n0 : Bool) (r0 : List (List AV)) (x7 : Int) (p : P162_2) : (d162_2 n0 r0 x7 p).obs := by
  unfold d162_2
  repeat' (first | exact trivial | apply And.intro)
theorem lok162_2 (n0 : Bool) (r0 : List (List AV)) (x7 : Int) (x8 : Int) : LoopOk TA 162 2 c162_2 (hd162_2 n0 r0 x7 x8) (Dt.opt (w162_2 n0 r0 x7 x8) (xd162_2 n0 r0 x7)) :=
  loop_okD cr162 (fun p Q => r162_2 n0 r0 x7 p Q) (fun p => ob162_2 n0 r0 x7 p) (fun x => by
    unfold ex162_2
    repeat' (first | (intro h; cases h; done) | (generalize Nat.beq _ _ = b; cases b))) (fun x r h => by
    simp only [xd162_2, Dt.val_br, Dt.val_ret, ex162_2] at h ⊢
    revert h
    repeat' (first | (intro h; exact (Option.some.inj h).symm) | (generalize Nat.beq _ _ = b; cases b))) x8
abbrev X162 : Type := Int
noncomputable def d162 (n0 : Bool) (r0 : List (List AV)) : Dt X162 :=
  .ob (LoopOk TA 162 2 c162_2 (hd162_2 n0 r0 (r0.length : Int) 0) (Dt.opt (w162_2 n0 r0 (r0.length : Int) 0) (xd162_2 n0 r0 (r0.length : Int))))
  (Dt.opt (w162_2 n0 r0 (r0.length : Int) 0) fun y2 =>
    .br (Nat.beq y2.1 0)
    (.ret y2.2)
    (.ret (-1)))
noncomputable def v162 (n0 : Bool) (r0 : List (List AV)) : Option X162 := (d162 n0 r0).val
noncomputable def sh162 (n0 : Bool) (r0 : List (List AV)) (x : X162) : AV × List GB := ((.int .i64 x), [])
noncomputable def sd162 (n0 : Bool) (r0 : List (List AV)) (x : X162) : Dt (AV × List GB) := .ret ((.int .i64 x), [])
noncomputable def s162 : FS := guardS [.c (.sl 25 .no), .c (.ex (.fn 154 []))] [] fun xs H => Dt.opt (v162 (nth xs 0).slNil (nth xs 0).slRows) (sd162 (nth xs 0).slNil (nth xs 0).slRows)
theorem e162 (n0 : Bool) (r0 : List (List AV)) (Q : AV × List GB → Prop) : wpN TA (cT cs162) lt162 un162 80 (evFunc TA 162 [(.sl 25 n0 r0 .no), (.fn 154 [])] []) Q = (d162 n0 r0).wp (fun x => Q (sh162 n0 r0 x)) := by kernel_rfl
theorem o162 (n0 : Bool) (r0 : List (List AV)) : (d162 n0 r0).obs := by
  unfold d162
  repeat' (first | exact trivial | apply lok162_2 | apply And.intro)
theorem k162 : FRight TA 162 s162 := fright (D := fun xs H => d162 (nth xs 0).slNil (nth xs 0).slRows) (sh := fun xs H => sh162 (nth xs 0).slNil (nth xs 0).slRows) cr162 (fun xs H Q => e162 (nth xs 0).slNil (nth xs 0).slRows Q) (fun xs H => o162 (nth xs 0).slNil (nth xs 0).slRows) (by intro xs H x r h; exact (Option.some.inj h).symm)
/-! slices.ContainsFunc[[]vedette/api.Event,vedette/api.Event] -/
noncomputable def un99 : Nat → Bool := fun _ => false
noncomputable def cs99 : List (Nat × FS) := [(162, s162)]
theorem cr99 : CRight TA (cT cs99) := cT_right (cT_cons k162 cT_nil)
noncomputable def lt99 : LT := fun rid st => .fail
abbrev X99 : Type := Bool
noncomputable def d99 (n0 : Bool) (r0 : List (List AV)) : Dt X99 :=
  Dt.opt (v162 n0 r0) fun y1 =>
  .ret (decide (0 ≤ y1))
noncomputable def v99 (n0 : Bool) (r0 : List (List AV)) : Option X99 := (d99 n0 r0).val
noncomputable def sh99 (n0 : Bool) (r0 : List (List AV)) (x : X99) : AV × List GB := ((.bool x), [])
noncomputable def sd99 (n0 : Bool) (r0 : List (List AV)) (x : X99) : Dt (AV × List GB) := .ret ((.bool x), [])
noncomputable def s99 : FS := guardS [.c (.sl 25 .no), .c (.ex (.fn 154 []))] [] fun xs H => Dt.opt (v99 (nth xs 0).slNil (nth xs 0).slRows) (sd99 (nth xs 0).slNil (nth xs 0).slRows)
theorem e99 (n0 : Bool) (r0 : List (List AV)) (Q : AV × List GB → Prop) : wpN TA (cT cs99) lt99 un99 80 (evFunc TA 99 [(.sl 25 n0 r0 .no), (.fn 154 [])] []) Q = (d99 n0 r0).wp (fun x => Q (sh99 n0 r0 x)) := by kernel_rfl
theorem o99 (n0 : Bool) (r0 : List (List AV)) : (d99 n0 r0).obs := by
  unfold d99
  repeat' (first | exact trivial | apply And.intro)
theorem k99 : FRight TA 99 s99 := fright (D := fun xs H => d99 (nth xs 0).slNil (nth xs 0).slRows) (sh := fun xs H => sh99 (nth xs 0).slNil (nth xs 0).slRows) cr99 (fun xs H Q => e99 (nth xs 0).slNil (nth xs 0).slRows Q) (fun xs H => o99 (nth xs 0).slNil (nth xs 0).slRows) (by intro xs H x r h; exact (Option.some.inj h).symm)
/-! (*vedette/view.View).may -/
noncomputable def un91 : Nat → Bool := fun _ => false
noncomputable def cs91 : List (Nat × FS) := [(99, s99)]
theorem cr91 : CRight TA (cT cs91) := cT_right (cT_cons k99 cT_nil)
noncomputable def lt91 : LT := fun rid st => .fail
abbrev X91 : Type := Bool
noncomputable def d91 (x1_0 : Int) (x1_1 : Int) (x1_2 : Int) (x1_3 : Int) (x1_4 : Int) (n1_5 : Bool) (r1_5 : List (List AV)) (m0 : List (List AV × AV)) (xh1_0 : Int) (xh1_1 : Int) (xh1_2 : Int) (xh1_3 : Int) (xh1_4 : Int) (nh1_5 : Bool) (rh1_5 : List (List AV)) (nh1_6 : Bool) (rh1_6 : List (List AV)) : Dt X91 :=
  .br (!(x1_1 == xh1_0))
  (.ret false)
  (.br (!(x1_2 == xh1_1))
    (.ret false)
    (.br (decide (x1_0 < 0))
      (.ret false)
      (.br (decide (xh1_2 ≤ x1_0))
        (.ret false)
        (.br (decide (x1_3 < 0))
          (.ret false)
          (.br (decide (x1_4 < x1_3))
            (.ret false)
            (.br (!(xh1_4 == (-1)))
              (.br (!(x1_3 == xh1_4))
                (.ret false)
                (.br (decide (x1_4 ≤ xh1_3))
                  (.ret false)
                  (.br (decide (36 < (wrapF .i64 (x1_4 - (if xh1_3 > x1_3 then xh1_3 else x1_3)))))
                    (.ret false)
                    (.br (m0.all (fun p => canonOks [(.i .i64), (.i .i64)] p.1))
                      (.br (canonOkE (.l 25) (getE [(.int .i64 x1_0), (.int .i64 x1_4)] (.sl 25 true [] .no) m0))
                        (.br (hasE [(.int .i64 x1_0), (.int .i64 x1_4)] m0)
                          (.ret false)
                          (.br ((n1_5 || true) && true)
                            (Dt.opt (v99 n1_5 r1_5) fun y1 =>
                              .ret (!y1)) (.fail))) (.fail)) (.fail)))))
              (.br (decide (x1_4 ≤ xh1_3))
                (.ret false)
                (.br (decide (36 < (wrapF .i64 (x1_4 - (if xh1_3 > x1_3 then xh1_3 else x1_3)))))
                  (.ret false)
                  (.br (m0.all (fun p => canonOks [(.i .i64), (.i .i64)] p.1))
                    (.br (canonOkE (.l 25) (getE [(.int .i64 x1_0), (.int .i64 x1_4)] (.sl 25 true [] .no) m0))
                      (.br (hasE [(.int .i64 x1_0), (.int .i64 x1_4)] m0)
                        (.ret false)
                        (.br ((n1_5 || true) && true)
                          (Dt.opt (v99 n1_5 r1_5) fun y2 =>
                            .ret (!y2)) (.fail))) (.fail)) (.fail))))))))))
noncomputable def v91 (x1_0 : Int) (x1_1 : Int) (x1_2 : Int) (x1_3 : Int) (x1_4 : Int) (n1_5 : Bool) (r1_5 : List (List AV)) (m0 : List (List AV × AV)) (xh1_0 : Int) (xh1_1 : Int) (xh1_2 : Int) (xh1_3 : Int) (xh1_4 : Int) (nh1_5 : Bool) (rh1_5 : List (List AV)) (nh1_6 : Bool) (rh1_6 : List (List AV)) : Option X91 := (d91 x1_0 x1_1 x1_2 x1_3 x1_4 n1_5 r1_5 m0 xh1_0 xh1_1 xh1_2 xh1_3 xh1_4 nh1_5 rh1_5 nh1_6 rh1_6).val
noncomputable def sh91 (x1_0 : Int) (x1_1 : Int) (x1_2 : Int) (x1_3 : Int) (x1_4 : Int) (n1_5 : Bool) (r1_5 : List (List AV)) (m0 : List (List AV × AV)) (xh1_0 : Int) (xh1_1 : Int) (xh1_2 : Int) (xh1_3 : Int) (xh1_4 : Int) (nh1_5 : Bool) (rh1_5 : List (List AV)) (nh1_6 : Bool) (rh1_6 : List (List AV)) (x : X91) : AV × List GB := ((.bool x), [(.map m0), (.cells [(.int .i64 xh1_0), (.int .i64 xh1_1), (.int .i64 xh1_2), (.int .i64 xh1_3), (.int .i64 xh1_4), (.sl 11 nh1_5 rh1_5 .no), (.sl 25 nh1_6 rh1_6 .self), (.mp 0)])])
noncomputable def sd91 (x1_0 : Int) (x1_1 : Int) (x1_2 : Int) (x1_3 : Int) (x1_4 : Int) (n1_5 : Bool) (r1_5 : List (List AV)) (m0 : List (List AV × AV)) (xh1_0 : Int) (xh1_1 : Int) (xh1_2 : Int) (xh1_3 : Int) (xh1_4 : Int) (nh1_5 : Bool) (rh1_5 : List (List AV)) (nh1_6 : Bool) (rh1_6 : List (List AV)) (x : X91) : Dt (AV × List GB) := .ret ((.bool x), [(.map m0), (.cells [(.int .i64 xh1_0), (.int .i64 xh1_1), (.int .i64 xh1_2), (.int .i64 xh1_3), (.int .i64 xh1_4), (.sl 11 nh1_5 rh1_5 .no), (.sl 25 nh1_6 rh1_6 .self), (.mp 0)])])
noncomputable def s91 : FS := guardS [.c (.ex (.gp 1 0)), .agg [.i .i64, .i .i64, .i .i64, .i .i64, .i .i64, .sl 25 .no]] [.map, .cells [.i .i64, .i .i64, .i .i64, .i .i64, .i .i64, .sl 11 .no, .sl 25 .self, .ex (.mp 0)]] fun xs H => Dt.opt (v91 (nth (nth xs 1).cells 0).intOf (nth (nth xs 1).cells 1).intOf (nth (nth xs 1).cells 2).intOf (nth (nth xs 1).cells 3).intOf (nth (nth xs 1).cells 4).intOf (nth (nth xs 1).cells 5).slNil (nth (nth xs 1).cells 5).slRows (gm H 0) (gc H 1 0).intOf (gc H 1 1).intOf (gc H 1 2).intOf (gc H 1 3).intOf (gc H 1 4).intOf (gc H 1 5).slNil (gc H 1 5).slRows (gc H 1 6).slNil (gc H 1 6).slRows) (sd91 (nth (nth xs 1).cells 0).intOf (nth (nth xs 1).cells 1).intOf (nth (nth xs 1).cells 2).intOf (nth (nth xs 1).cells 3).intOf (nth (nth xs 1).cells 4).intOf (nth (nth xs 1).cells 5).slNil (nth (nth xs 1).cells 5).slRows (gm H 0) (gc H 1 0).intOf (gc H 1 1).intOf (gc H 1 2).intOf (gc H 1 3).intOf (gc H 1 4).intOf (gc H 1 5).slNil (gc H 1 5).slRows (gc H 1 6).slNil (gc H 1 6).slRows)
theorem e91 (x1_0 : Int) (x1_1 : Int) (x1_2 : Int) (x1_3 : Int) (x1_4 : Int) (n1_5 : Bool) (r1_5 : List (List AV)) (m0 : List (List AV × AV)) (xh1_0 : Int) (xh1_1 : Int) (xh1_2 : Int) (xh1_3 : Int) (xh1_4 : Int) (nh1_5 : Bool) (rh1_5 : List (List AV)) (nh1_6 : Bool) (rh1_6 : List (List AV)) (Q : AV × List GB → Prop) : wpN TA (cT cs91) lt91 un91 80 (evFunc TA 91 [(.gp 1 0), (.agg [(.int .i64 x1_0), (.int .i64 x1_1), (.int .i64 x1_2), (.int .i64 x1_3), (.int .i64 x1_4), (.sl 25 n1_5 r1_5 .no)])] [(.map m0), (.cells [(.int .i64 xh1_0), (.int .i64 xh1_1), (.int .i64 xh1_2), (.int .i64 xh1_3), (.int .i64 xh1_4), (.sl 11 nh1_5 rh1_5 .no), (.sl 25 nh1_6 rh1_6 .self), (.mp 0)])]) Q = (d91 x1_0 x1_1 x1_2 x1_3 x1_4 n1_5 r1_5 m0 xh1_0 xh1_1 xh1_2 xh1_3 xh1_4 nh1_5 rh1_5 nh1_6 rh1_6).wp (fun x => Q (sh91 x1_0 x1_1 x1_2 x1_3 x1_4 n1_5 r1_5 m0 xh1_0 xh1_1 xh1_2 xh1_3 xh1_4 nh1_5 rh1_5 nh1_6 rh1_6 x)) := by kernel_rfl
theorem o91 (x1_0 : Int) (x1_1 : Int) (x1_2 : Int) (x1_3 : Int) (x1_4 : Int) (n1_5 : Bool) (r1_5 : List (List AV)) (m0 : List (List AV × AV)) (xh1_0 : Int) (xh1_1 : Int) (xh1_2 : Int) (xh1_3 : Int) (xh1_4 : Int) (nh1_5 : Bool) (rh1_5 : List (List AV)) (nh1_6 : Bool) (rh1_6 : List (List AV)) : (d91 x1_0 x1_1 x1_2 x1_3 x1_4 n1_5 r1_5 m0 xh1_0 xh1_1 xh1_2 xh1_3 xh1_4 nh1_5 rh1_5 nh1_6 rh1_6).obs := by
  unfold d91
  repeat' (first | exact trivial | apply And.intro)
theorem k91 : FRight TA 91 s91 := fright (D := fun xs H => d91 (nth (nth xs 1).cells 0).intOf (nth (nth xs 1).cells 1).intOf (nth (nth xs 1).cells 2).intOf (nth (nth xs 1).cells 3).intOf (nth (nth xs 1).cells 4).intOf (nth (nth xs 1).cells 5).slNil (nth (nth xs 1).cells 5).slRows (gm H 0) (gc H 1 0).intOf (gc H 1 1).intOf (gc H 1 2).intOf (gc H 1 3).intOf (gc H 1 4).intOf (gc H 1 5).slNil (gc H 1 5).slRows (gc H 1 6).slNil (gc H 1 6).slRows) (sh := fun xs H => sh91 (nth (nth xs 1).cells 0).intOf (nth (nth xs 1).cells 1).intOf (nth (nth xs 1).cells 2).intOf (nth (nth xs 1).cells 3).intOf (nth (nth xs 1).cells 4).intOf (nth (nth xs 1).cells 5).slNil (nth (nth xs 1).cells 5).slRows (gm H 0) (gc H 1 0).intOf (gc H 1 1).intOf (gc H 1 2).intOf (gc H 1 3).intOf (gc H 1 4).intOf (gc H 1 5).slNil (gc H 1 5).slRows (gc H 1 6).slNil (gc H 1 6).slRows) cr91 (fun xs H Q => e91 (nth (nth xs 1).cells 0).intOf (nth (nth xs 1).cells 1).intOf (nth (nth xs 1).cells 2).intOf (nth (nth xs 1).cells 3).intOf (nth (nth xs 1).cells 4).intOf (nth (nth xs 1).cells 5).slNil (nth (nth xs 1).cells 5).slRows (gm H 0) (gc H 1 0).intOf (gc H 1 1).intOf (gc H 1 2).intOf (gc H 1 3).intOf (gc H 1 4).intOf (gc H 1 5).slNil (gc H 1 5).slRows (gc H 1 6).slNil (gc H 1 6).slRows Q) (fun xs H => o91 (nth (nth xs 1).cells 0).intOf (nth (nth xs 1).cells 1).intOf (nth (nth xs 1).cells 2).intOf (nth (nth xs 1).cells 3).intOf (nth (nth xs 1).cells 4).intOf (nth (nth xs 1).cells 5).slNil (nth (nth xs 1).cells 5).slRows (gm H 0) (gc H 1 0).intOf (gc H 1 1).intOf (gc H 1 2).intOf (gc H 1 3).intOf (gc H 1 4).intOf (gc H 1 5).slNil (gc H 1 5).slRows (gc H 1 6).slNil (gc H 1 6).slRows) (by intro xs H x r h; exact (Option.some.inj h).symm)
/-! slices.Clone[[]vedette/api.Event,vedette/api.Event] -/
noncomputable def un92 : Nat → Bool := fun _ => false
noncomputable def cs92 : List (Nat × FS) := []
theorem cr92 : CRight TA (cT cs92) := cT_right cT_nil
noncomputable def lt92 : LT := fun rid st => .fail
abbrev X92 : Type := Bool × (List (List AV))
noncomputable def d92 (n0 : Bool) (r0 : List (List AV)) : Dt X92 :=
  .br n0
  (.ret (true, []))
  (.br (decide ((0 + r0.length) ≤ 268435456))
    (.br (r0.all (fun r => r.all AV.pure1 && r.length == 25))
      (.ret (false, r0)) (.fail)) (.fail))
noncomputable def v92 (n0 : Bool) (r0 : List (List AV)) : Option X92 := (d92 n0 r0).val
noncomputable def sh92 (n0 : Bool) (r0 : List (List AV)) (x : X92) : AV × List GB := ((.sl 25 x.1 x.2 (.tc 0)), [])
noncomputable def sd92 (n0 : Bool) (r0 : List (List AV)) (x : X92) : Dt (AV × List GB) := .ret ((.sl 25 x.1 x.2 (.tc 0)), [])
noncomputable def s92 : FS := guardS [.c (.sl 25 .no)] [] fun xs H => Dt.opt (v92 (nth xs 0).slNil (nth xs 0).slRows) (sd92 (nth xs 0).slNil (nth xs 0).slRows)
theorem e92 (n0 : Bool) (r0 : List (List AV)) (Q : AV × List GB → Prop) : wpN TA (cT cs92) lt92 un92 80 (evFunc TA 92 [(.sl 25 n0 r0 .no)] []) Q = (d92 n0 r0).wp (fun x => Q (sh92 n0 r0 x)) := by kernel_rfl
theorem o92 (n0 : Bool) (r0 : List (List AV)) : (d92 n0 r0).obs := by
  unfold d92
  repeat' (first | exact trivial | apply And.intro)
theorem k92 : FRight TA 92 s92 := fright (D := fun xs H => d92 (nth xs 0).slNil (nth xs 0).slRows) (sh := fun xs H => sh92 (nth xs 0).slNil (nth xs 0).slRows) cr92 (fun xs H Q => e92 (nth xs 0).slNil (nth xs 0).slRows Q) (fun xs H => o92 (nth xs 0).slNil (nth xs 0).slRows) (by intro xs H x r h; exact (Option.some.inj h).symm)
/-! (*vedette/view.View).folds -/
noncomputable def un93 : Nat → Bool := fun _ => false
noncomputable def cs93 : List (Nat × FS) := [(26, s26)]
theorem cr93 : CRight TA (cT cs93) := cT_right (cT_cons k26 cT_nil)
noncomputable def lt93 : LT := fun rid st => .fail
abbrev X93 : Type := Bool × (List (List AV)) × Bool × (List (List AV))
noncomputable def d93 (n1 : Bool) (r1 : List (List AV)) (m0 : List (List AV × AV)) (xh1_0 : Int) (xh1_1 : Int) (xh1_2 : Int) (xh1_3 : Int) (xh1_4 : Int) (nh1_5 : Bool) (rh1_5 : List (List AV)) (nh1_6 : Bool) (rh1_6 : List (List AV)) : Dt X93 :=
  .br ((nh1_5 || true) && true)
  (Dt.opt (v26 nh1_5 rh1_5 n1 r1) fun y1 =>
    .br (!y1.2.2)
    (.ret (nh1_5, rh1_5, nh1_6, rh1_6))
    (.br ((nh1_6 || true) && true)
      (.br (decide ((rh1_6.length + r1.length) ≤ 268435456))
        (.br (r1.all (fun r => r.all AV.pure1 && r.length == 25))
          (.br nh1_6
            (.ret (y1.1, y1.2.1, r1.isEmpty, r1))
            (.ret (y1.1, y1.2.1, false, (rh1_6 ++ r1)))) (.fail)) (.fail)) (.fail))) (.fail)
noncomputable def v93 (n1 : Bool) (r1 : List (List AV)) (m0 : List (List AV × AV)) (xh1_0 : Int) (xh1_1 : Int) (xh1_2 : Int) (xh1_3 : Int) (xh1_4 : Int) (nh1_5 : Bool) (rh1_5 : List (List AV)) (nh1_6 : Bool) (rh1_6 : List (List AV)) : Option X93 := (d93 n1 r1 m0 xh1_0 xh1_1 xh1_2 xh1_3 xh1_4 nh1_5 rh1_5 nh1_6 rh1_6).val
noncomputable def sh93 (n1 : Bool) (r1 : List (List AV)) (m0 : List (List AV × AV)) (xh1_0 : Int) (xh1_1 : Int) (xh1_2 : Int) (xh1_3 : Int) (xh1_4 : Int) (nh1_5 : Bool) (rh1_5 : List (List AV)) (nh1_6 : Bool) (rh1_6 : List (List AV)) (x : X93) : AV × List GB := ((.tup []), [(.map m0), (.cells [(.int .i64 xh1_0), (.int .i64 xh1_1), (.int .i64 xh1_2), (.int .i64 xh1_3), (.int .i64 xh1_4), (.sl 11 x.1 x.2.1 .no), (.sl 25 x.2.2.1 x.2.2.2 .self), (.mp 0)])])
noncomputable def sd93 (n1 : Bool) (r1 : List (List AV)) (m0 : List (List AV × AV)) (xh1_0 : Int) (xh1_1 : Int) (xh1_2 : Int) (xh1_3 : Int) (xh1_4 : Int) (nh1_5 : Bool) (rh1_5 : List (List AV)) (nh1_6 : Bool) (rh1_6 : List (List AV)) (x : X93) : Dt (AV × List GB) := .ret ((.tup []), [(.map m0), (.cells [(.int .i64 xh1_0), (.int .i64 xh1_1), (.int .i64 xh1_2), (.int .i64 xh1_3), (.int .i64 xh1_4), (.sl 11 x.1 x.2.1 .no), (.sl 25 x.2.2.1 x.2.2.2 .self), (.mp 0)])])
noncomputable def s93 : FS := guardS [.c (.ex (.gp 1 0)), .c (.sl 25 .no)] [.map, .cells [.i .i64, .i .i64, .i .i64, .i .i64, .i .i64, .sl 11 .no, .sl 25 .self, .ex (.mp 0)]] fun xs H => Dt.opt (v93 (nth xs 1).slNil (nth xs 1).slRows (gm H 0) (gc H 1 0).intOf (gc H 1 1).intOf (gc H 1 2).intOf (gc H 1 3).intOf (gc H 1 4).intOf (gc H 1 5).slNil (gc H 1 5).slRows (gc H 1 6).slNil (gc H 1 6).slRows) (sd93 (nth xs 1).slNil (nth xs 1).slRows (gm H 0) (gc H 1 0).intOf (gc H 1 1).intOf (gc H 1 2).intOf (gc H 1 3).intOf (gc H 1 4).intOf (gc H 1 5).slNil (gc H 1 5).slRows (gc H 1 6).slNil (gc H 1 6).slRows)
theorem e93 (n1 : Bool) (r1 : List (List AV)) (m0 : List (List AV × AV)) (xh1_0 : Int) (xh1_1 : Int) (xh1_2 : Int) (xh1_3 : Int) (xh1_4 : Int) (nh1_5 : Bool) (rh1_5 : List (List AV)) (nh1_6 : Bool) (rh1_6 : List (List AV)) (Q : AV × List GB → Prop) : wpN TA (cT cs93) lt93 un93 80 (evFunc TA 93 [(.gp 1 0), (.sl 25 n1 r1 .no)] [(.map m0), (.cells [(.int .i64 xh1_0), (.int .i64 xh1_1), (.int .i64 xh1_2), (.int .i64 xh1_3), (.int .i64 xh1_4), (.sl 11 nh1_5 rh1_5 .no), (.sl 25 nh1_6 rh1_6 .self), (.mp 0)])]) Q = (d93 n1 r1 m0 xh1_0 xh1_1 xh1_2 xh1_3 xh1_4 nh1_5 rh1_5 nh1_6 rh1_6).wp (fun x => Q (sh93 n1 r1 m0 xh1_0 xh1_1 xh1_2 xh1_3 xh1_4 nh1_5 rh1_5 nh1_6 rh1_6 x)) := by kernel_rfl
theorem o93 (n1 : Bool) (r1 : List (List AV)) (m0 : List (List AV × AV)) (xh1_0 : Int) (xh1_1 : Int) (xh1_2 : Int) (xh1_3 : Int) (xh1_4 : Int) (nh1_5 : Bool) (rh1_5 : List (List AV)) (nh1_6 : Bool) (rh1_6 : List (List AV)) : (d93 n1 r1 m0 xh1_0 xh1_1 xh1_2 xh1_3 xh1_4 nh1_5 rh1_5 nh1_6 rh1_6).obs := by
  unfold d93
  repeat' (first | exact trivial | apply And.intro)
theorem k93 : FRight TA 93 s93 := fright (D := fun xs H => d93 (nth xs 1).slNil (nth xs 1).slRows (gm H 0) (gc H 1 0).intOf (gc H 1 1).intOf (gc H 1 2).intOf (gc H 1 3).intOf (gc H 1 4).intOf (gc H 1 5).slNil (gc H 1 5).slRows (gc H 1 6).slNil (gc H 1 6).slRows) (sh := fun xs H => sh93 (nth xs 1).slNil (nth xs 1).slRows (gm H 0) (gc H 1 0).intOf (gc H 1 1).intOf (gc H 1 2).intOf (gc H 1 3).intOf (gc H 1 4).intOf (gc H 1 5).slNil (gc H 1 5).slRows (gc H 1 6).slNil (gc H 1 6).slRows) cr93 (fun xs H Q => e93 (nth xs 1).slNil (nth xs 1).slRows (gm H 0) (gc H 1 0).intOf (gc H 1 1).intOf (gc H 1 2).intOf (gc H 1 3).intOf (gc H 1 4).intOf (gc H 1 5).slNil (gc H 1 5).slRows (gc H 1 6).slNil (gc H 1 6).slRows Q) (fun xs H => o93 (nth xs 1).slNil (nth xs 1).slRows (gm H 0) (gc H 1 0).intOf (gc H 1 1).intOf (gc H 1 2).intOf (gc H 1 3).intOf (gc H 1 4).intOf (gc H 1 5).slNil (gc H 1 5).slRows (gc H 1 6).slNil (gc H 1 6).slRows) (by intro xs H x r h; exact (Option.some.inj h).symm)
/-! (*vedette/view.View).Take -/
noncomputable def un33 : Nat → Bool := fun _ => false
noncomputable def cs33 : List (Nat × FS) := [(91, s91), (92, s92), (93, s93)]
theorem cr33 : CRight TA (cT cs33) := cT_right (cT_cons k91 (cT_cons k92 (cT_cons k93 cT_nil)))
noncomputable def c33_7 : Code := cB (cB (cR (cL (cR (cB (cB (cB (cL (cR (cR (cR (cR (cB (cR (bodyOf Try.f33)))))))))))))))
abbrev P33_7 : Type := Int
abbrev Y33_7 : Type := Nat
noncomputable def d33_7 (x5 : Int) (x44 : Int) (m0 : List (List AV × AV)) (xh1_0 : Int) (xh1_1 : Int) (xh1_2 : Int) (xh1_3 : Int) (xh1_4 : Int) (nh1_5 : Bool) (rh1_5 : List (List AV)) (nh1_6 : Bool) (rh1_6 : List (List AV)) (x45 : Int) : Dt (P33_7 ⊕ Y33_7) :=
  .br (decide (x45 < x44))
  (.br (m0.all (fun p => canonOks [(.i .i64), (.i .i64)] p.1))
    (.br (canonOkE (.l 25) (getE [(.int .i64 x45), (.int .i64 x5)] (.sl 25 true [] .no) m0))
      (.br (!(hasE [(.int .i64 x45), (.int .i64 x5)] m0))
        (.ret (.inr 0))
        (.ret (.inl (wrapF .i64 (x45 + 1))))) (.fail)) (.fail))
  (.ret (.inr 1))
noncomputable def w33_7 (x5 : Int) (x44 : Int) (x45 : Int) (m0 : List (List AV × AV)) (xh1_0 : Int) (xh1_1 : Int) (xh1_2 : Int) (xh1_3 : Int) (xh1_4 : Int) (nh1_5 : Bool) (rh1_5 : List (List AV)) (nh1_6 : Bool) (rh1_6 : List (List AV)) : Option Y33_7 := loopV (fun p : P33_7 => d33_7 x5 x44 m0 xh1_0 xh1_1 xh1_2 xh1_3 xh1_4 nh1_5 rh1_5 nh1_6 rh1_6 p) x45
noncomputable def hd33_7 (x5 : Int) (x44 : Int) (x45 : Int) (m0 : List (List AV × AV)) (xh1_0 : Int) (xh1_1 : Int) (xh1_2 : Int) (xh1_3 : Int) (xh1_4 : Int) (nh1_5 : Bool) (rh1_5 : List (List AV)) (nh1_6 : Bool) (rh1_6 : List (List AV)) : St := (stAt 91 false [(0, (.gp 1 0)), (5, (.int .i64 x5)), (44, (.int .i64 x44)), (45, (.int .i64 x45))] [] [(.map m0), (.cells [(.int .i64 xh1_0), (.int .i64 xh1_1), (.int .i64 xh1_2), (.int .i64 xh1_3), (.int .i64 xh1_4), (.sl 11 nh1_5 rh1_5 .no), (.sl 25 nh1_6 rh1_6 .self), (.mp 0)])])
noncomputable def ex33_7 (x5 : Int) (x44 : Int) (m0 : List (List AV × AV)) (xh1_0 : Int) (xh1_1 : Int) (xh1_2 : Int) (xh1_3 : Int) (xh1_4 : Int) (nh1_5 : Bool) (rh1_5 : List (List AV)) (nh1_6 : Bool) (rh1_6 : List (List AV)) (x : Y33_7) : Ex × St := bif Nat.beq x 0 then ((.exit 0), (stAt 91 false [(0, (.gp 1 0)), (5, (.int .i64 x5))] [] [(.map m0), (.cells [(.int .i64 xh1_0), (.int .i64 xh1_1), (.int .i64 xh1_2), (.int .i64 xh1_3), (.int .i64 xh1_4), (.sl 11 nh1_5 rh1_5 .no), (.sl 25 nh1_6 rh1_6 .self), (.mp 0)])])) else ((.exit 2), (stAt 91 false [(0, (.gp 1 0)), (5, (.int .i64 x5))] [] [(.map m0), (.cells [(.int .i64 xh1_0), (.int .i64 xh1_1), (.int .i64 xh1_2), (.int .i64 xh1_3), (.int .i64 xh1_4), (.sl 11 nh1_5 rh1_5 .no), (.sl 25 nh1_6 rh1_6 .self), (.mp 0)])]))
noncomputable def xd33_7 (x5 : Int) (x44 : Int) (m0 : List (List AV × AV)) (xh1_0 : Int) (xh1_1 : Int) (xh1_2 : Int) (xh1_3 : Int) (xh1_4 : Int) (nh1_5 : Bool) (rh1_5 : List (List AV)) (nh1_6 : Bool) (rh1_6 : List (List AV)) (x : Y33_7) : Dt (Ex × St) := .br (Nat.beq x 0) (.ret ((.exit 0), (stAt 91 false [(0, (.gp 1 0)), (5, (.int .i64 x5))] [] [(.map m0), (.cells [(.int .i64 xh1_0), (.int .i64 xh1_1), (.int .i64 xh1_2), (.int .i64 xh1_3), (.int .i64 xh1_4), (.sl 11 nh1_5 rh1_5 .no), (.sl 25 nh1_6 rh1_6 .self), (.mp 0)])]))) (.ret ((.exit 2), (stAt 91 false [(0, (.gp 1 0)), (5, (.int .i64 x5))] [] [(.map m0), (.cells [(.int .i64 xh1_0), (.int .i64 xh1_1), (.int .i64 xh1_2), (.int .i64 xh1_3), (.int .i64 xh1_4), (.sl 11 nh1_5 rh1_5 .no), (.sl 25 nh1_6 rh1_6 .self), (.mp 0)])])))
noncomputable def c33_13 : Code := cB (cB (cR (cL (cR (cR (cB (cB (cB (cL (cR (cR (cR (cR (cB (cR (bodyOf Try.f33))))))))))))))))
abbrev P33_13 : Type := Int × (List (List AV × AV)) × Bool × (List (List AV)) × Bool × (List (List AV))
abbrev Y33_13 : Type := (List (List AV × AV)) × Bool × (List (List AV)) × Bool × (List (List AV))
noncomputable def d33_13 (x5 : Int) (x65 : Int) (xh1_0 : Int) (xh1_1 : Int) (xh1_2 : Int) (xh1_3 : Int) (xh1_4 : Int) (x66 : Int) (m0 : List (List AV × AV)) (nh1_5 : Bool) (rh1_5 : List (List AV)) (nh1_6 : Bool) (rh1_6 : List (List AV)) : Dt (P33_13 ⊕ Y33_13) :=
  .br (decide (x66 < x65))
  (.br (m0.all (fun p => canonOks [(.i .i64), (.i .i64)] p.1))
    (.br (canonOkE (.l 25) (getE [(.int .i64 x66), (.int .i64 x5)] (.sl 25 true [] .no) m0))
      (Dt.opt (v93 ((getE [(.int .i64 x66), (.int .i64 x5)] (.sl 25 true [] .no) m0).slNil) ((getE [(.int .i64 x66), (.int .i64 x5)] (.sl 25 true [] .no) m0).slRows) m0 xh1_0 xh1_1 xh1_2 xh1_3 xh1_4 nh1_5 rh1_5 nh1_6 rh1_6) fun y4 =>
        .br ((m0.all (fun p => canonOks [(.i .i64), (.i .i64)] p.1)) && true)
        (.ret (.inl ((wrapF .i64 (x66 + 1)), (delE [(.int .i64 x66), (.int .i64 x5)] m0), y4.1, y4.2.1, y4.2.2.1, y4.2.2.2))) (.fail)) (.fail)) (.fail))
  (.ret (.inr (m0, nh1_5, rh1_5, nh1_6, rh1_6)))
noncomputable def w33_13 (x5 : Int) (x65 : Int) (x66 : Int) (m0 : List (List AV × AV)) (xh1_0 : Int) (xh1_1 : Int) (xh1_2 : Int) (xh1_3 : Int) (xh1_4 : Int) (nh1_5 : Bool) (rh1_5 : List (List AV)) (nh1_6 : Bool) (rh1_6 : List (List AV)) : Option Y33_13 := loopV (fun p : P33_13 => d33_13 x5 x65 xh1_0 xh1_1 xh1_2 xh1_3 xh1_4 p.1 p.2.1 p.2.2.1 p.2.2.2.1 p.2.2.2.2.1 p.2.2.2.2.2) (x66, m0, nh1_5, rh1_5, nh1_6, rh1_6)
noncomputable def hd33_13 (x5 : Int) (x65 : Int) (x66 : Int) (m0 : List (List AV × AV)) (xh1_0 : Int) (xh1_1 : Int) (xh1_2 : Int) (xh1_3 : Int) (xh1_4 : Int) (nh1_5 : Bool) (rh1_5 : List (List AV)) (nh1_6 : Bool) (rh1_6 : List (List AV)) : St := (stAt 91 false [(0, (.gp 1 0)), (5, (.int .i64 x5)), (65, (.int .i64 x65)), (66, (.int .i64 x66))] [] [(.map m0), (.cells [(.int .i64 xh1_0), (.int .i64 xh1_1), (.int .i64 xh1_2), (.int .i64 xh1_3), (.int .i64 xh1_4), (.sl 11 nh1_5 rh1_5 .no), (.sl 25 nh1_6 rh1_6 .self), (.mp 0)])])
noncomputable def ex33_13 (x5 : Int) (x65 : Int) (xh1_0 : Int) (xh1_1 : Int) (xh1_2 : Int) (xh1_3 : Int) (xh1_4 : Int) (x : Y33_13) : Ex × St := ((.exit 4), (stAt 91 false [(0, (.gp 1 0)), (5, (.int .i64 x5))] [] [(.map x.1), (.cells [(.int .i64 xh1_0), (.int .i64 xh1_1), (.int .i64 xh1_2), (.int .i64 xh1_3), (.int .i64 xh1_4), (.sl 11 x.2.1 x.2.2.1 .no), (.sl 25 x.2.2.2.1 x.2.2.2.2 .self), (.mp 0)])]))
noncomputable def xd33_13 (x5 : Int) (x65 : Int) (xh1_0 : Int) (xh1_1 : Int) (xh1_2 : Int) (xh1_3 : Int) (xh1_4 : Int) (x : Y33_13) : Dt (Ex × St) := .ret ((.exit 4), (stAt 91 false [(0, (.gp 1 0)), (5, (.int .i64 x5))] [] [(.map x.1), (.cells [(.int .i64 xh1_0), (.int .i64 xh1_1), (.int .i64 xh1_2), (.int .i64 xh1_3), (.int .i64 xh1_4), (.sl 11 x.2.1 x.2.2.1 .no), (.sl 25 x.2.2.2.1 x.2.2.2.2 .self), (.mp 0)])]))
noncomputable def c33_5 : Code := cB (cB (cL (cR (cR (cR (cR (cB (cR (bodyOf Try.f33)))))))))
abbrev P33_5 : Type := (List (List AV × AV)) × Int × Bool × (List (List AV)) × Bool × (List (List AV))
abbrev Y33_5 : Type := (List (List AV × AV)) × Int × Bool × (List (List AV)) × Bool × (List (List AV))
noncomputable def d33_5 (xh1_0 : Int) (xh1_1 : Int) (xh1_2 : Int) (xh1_4 : Int) (m0 : List (List AV × AV)) (xh1_3 : Int) (nh1_5 : Bool) (rh1_5 : List (List AV)) (nh1_6 : Bool) (rh1_6 : List (List AV)) : Dt (P33_5 ⊕ Y33_5) :=
  .ob (LoopOk TA 33 7 c33_7 (hd33_7 (if xh1_4 > (wrapF .i64 (xh1_3 + 1)) then xh1_4 else (wrapF .i64 (xh1_3 + 1))) xh1_2 0 m0 xh1_0 xh1_1 xh1_2 xh1_3 xh1_4 nh1_5 rh1_5 nh1_6 rh1_6) (Dt.opt (w33_7 (if xh1_4 > (wrapF .i64 (xh1_3 + 1)) then xh1_4 else (wrapF .i64 (xh1_3 + 1))) xh1_2 0 m0 xh1_0 xh1_1 xh1_2 xh1_3 xh1_4 nh1_5 rh1_5 nh1_6 rh1_6) (xd33_7 (if xh1_4 > (wrapF .i64 (xh1_3 + 1)) then xh1_4 else (wrapF .i64 (xh1_3 + 1))) xh1_2 m0 xh1_0 xh1_1 xh1_2 xh1_3 xh1_4 nh1_5 rh1_5 nh1_6 rh1_6)))
  (Dt.opt (w33_7 (if xh1_4 > (wrapF .i64 (xh1_3 + 1)) then xh1_4 else (wrapF .i64 (xh1_3 + 1))) xh1_2 0 m0 xh1_0 xh1_1 xh1_2 xh1_3 xh1_4 nh1_5 rh1_5 nh1_6 rh1_6) fun y3 =>
    .br (Nat.beq y3 0)
    (.ret (.inr (m0, xh1_3, nh1_5, rh1_5, nh1_6, rh1_6)))
    (.ob (LoopOk TA 33 13 c33_13 (hd33_13 (if xh1_4 > (wrapF .i64 (xh1_3 + 1)) then xh1_4 else (wrapF .i64 (xh1_3 + 1))) xh1_2 0 m0 xh1_0 xh1_1 xh1_2 xh1_3 xh1_4 nh1_5 rh1_5 nh1_6 rh1_6) (Dt.opt (w33_13 (if xh1_4 > (wrapF .i64 (xh1_3 + 1)) then xh1_4 else (wrapF .i64 (xh1_3 + 1))) xh1_2 0 m0 xh1_0 xh1_1 xh1_2 xh1_3 xh1_4 nh1_5 rh1_5 nh1_6 rh1_6) (xd33_13 (if xh1_4 > (wrapF .i64 (xh1_3 + 1)) then xh1_4 else (wrapF .i64 (xh1_3 + 1))) xh1_2 xh1_0 xh1_1 xh1_2 xh1_3 xh1_4)))
      (Dt.opt (w33_13 (if xh1_4 > (wrapF .i64 (xh1_3 + 1)) then xh1_4 else (wrapF .i64 (xh1_3 + 1))) xh1_2 0 m0 xh1_0 xh1_1 xh1_2 xh1_3 xh1_4 nh1_5 rh1_5 nh1_6 rh1_6) fun y5 =>
        .ret (.inl (y5.1, (if xh1_4 > (wrapF .i64 (xh1_3 + 1)) then xh1_4 else (wrapF .i64 (xh1_3 + 1))), y5.2.1, y5.2.2.1, y5.2.2.2.1, y5.2.2.2.2)))))
noncomputable def w33_5 (m0 : List (List AV × AV)) (xh1_0 : Int) (xh1_1 : Int) (xh1_2 : Int) (xh1_3 : Int) (xh1_4 : Int) (nh1_5 : Bool) (rh1_5 : List (List AV)) (nh1_6 : Bool) (rh1_6 : List (List AV)) : Option Y33_5 := loopV (fun p : P33_5 => d33_5 xh1_0 xh1_1 xh1_2 xh1_4 p.1 p.2.1 p.2.2.1 p.2.2.2.1 p.2.2.2.2.1 p.2.2.2.2.2) (m0, xh1_3, nh1_5, rh1_5, nh1_6, rh1_6)
noncomputable def hd33_5 (m0 : List (List AV × AV)) (xh1_0 : Int) (xh1_1 : Int) (xh1_2 : Int) (xh1_3 : Int) (xh1_4 : Int) (nh1_5 : Bool) (rh1_5 : List (List AV)) (nh1_6 : Bool) (rh1_6 : List (List AV)) : St := (stAt 91 false [(0, (.gp 1 0))] [] [(.map m0), (.cells [(.int .i64 xh1_0), (.int .i64 xh1_1), (.int .i64 xh1_2), (.int .i64 xh1_3), (.int .i64 xh1_4), (.sl 11 nh1_5 rh1_5 .no), (.sl 25 nh1_6 rh1_6 .self), (.mp 0)])])
noncomputable def ex33_5 (xh1_0 : Int) (xh1_1 : Int) (xh1_2 : Int) (xh1_4 : Int) (x : Y33_5) : Ex × St := ((.exit 0), (stAt 91 false [] [] [(.map x.1), (.cells [(.int .i64 xh1_0), (.int .i64 xh1_1), (.int .i64 xh1_2), (.int .i64 x.2.1), (.int .i64 xh1_4), (.sl 11 x.2.2.1 x.2.2.2.1 .no), (.sl 25 x.2.2.2.2.1 x.2.2.2.2.2 .self), (.mp 0)])]))
noncomputable def xd33_5 (xh1_0 : Int) (xh1_1 : Int) (xh1_2 : Int) (xh1_4 : Int) (x : Y33_5) : Dt (Ex × St) := .ret ((.exit 0), (stAt 91 false [] [] [(.map x.1), (.cells [(.int .i64 xh1_0), (.int .i64 xh1_1), (.int .i64 xh1_2), (.int .i64 x.2.1), (.int .i64 xh1_4), (.sl 11 x.2.2.1 x.2.2.2.1 .no), (.sl 25 x.2.2.2.2.1 x.2.2.2.2.2 .self), (.mp 0)])]))
noncomputable def lt33 : LT := fun rid st => bif Nat.beq rid 7 then Dt.opt (w33_7 (nth st.tm 5).intOf (nth st.tm 44).intOf (nth st.tm 45).intOf (gm st.H 0) (gc st.H 1 0).intOf (gc st.H 1 1).intOf (gc st.H 1 2).intOf (gc st.H 1 3).intOf (gc st.H 1 4).intOf (gc st.H 1 5).slNil (gc st.H 1 5).slRows (gc st.H 1 6).slNil (gc st.H 1 6).slRows) (xd33_7 (nth st.tm 5).intOf (nth st.tm 44).intOf (gm st.H 0) (gc st.H 1 0).intOf (gc st.H 1 1).intOf (gc st.H 1 2).intOf (gc st.H 1 3).intOf (gc st.H 1 4).intOf (gc st.H 1 5).slNil (gc st.H 1 5).slRows (gc st.H 1 6).slNil (gc st.H 1 6).slRows) else bif Nat.beq rid 13 then Dt.opt (w33_13 (nth st.tm 5).intOf (nth st.tm 65).intOf (nth st.tm 66).intOf (gm st.H 0) (gc st.H 1 0).intOf (gc st.H 1 1).intOf (gc st.H 1 2).intOf (gc st.H 1 3).intOf (gc st.H 1 4).intOf (gc st.H 1 5).slNil (gc st.H 1 5).slRows (gc st.H 1 6).slNil (gc st.H 1 6).slRows) (xd33_13 (nth st.tm 5).intOf (nth st.tm 65).intOf (gc st.H 1 0).intOf (gc st.H 1 1).intOf (gc st.H 1 2).intOf (gc st.H 1 3).intOf (gc st.H 1 4).intOf) else bif Nat.beq rid 5 then Dt.opt (w33_5 (gm st.H 0) (gc st.H 1 0).intOf (gc st.H 1 1).intOf (gc st.H 1 2).intOf (gc st.H 1 3).intOf (gc st.H 1 4).intOf (gc st.H 1 5).slNil (gc st.H 1 5).slRows (gc st.H 1 6).slNil (gc st.H 1 6).slRows) (xd33_5 (gc st.H 1 0).intOf (gc st.H 1 1).intOf (gc st.H 1 2).intOf (gc st.H 1 4).intOf) else .fail
theorem r33_7 (x5 : Int) (x44 : Int) (m0 : List (List AV × AV)) (xh1_0 : Int) (xh1_1 : Int) (xh1_2 : Int) (xh1_3 : Int) (xh1_4 : Int) (nh1_5 : Bool) (rh1_5 : List (List AV)) (nh1_6 : Bool) (rh1_6 : List (List AV)) (p : P33_7) (Q : Ex × St → Prop) : wpN TA (cT cs33) lt33 un33 80 (roundR TA 33 7 c33_7 (hd33_7 x5 x44 p m0 xh1_0 xh1_1 xh1_2 xh1_3 xh1_4 nh1_5 rh1_5 nh1_6 rh1_6)) Q = (d33_7 x5 x44 m0 xh1_0 xh1_1 xh1_2 xh1_3 xh1_4 nh1_5 rh1_5 nh1_6 rh1_6 p).wp (fun o => Sum.rec (fun p => Q (.normal, hd33_7 x5 x44 p m0 xh1_0 xh1_1 xh1_2 xh1_3 xh1_4 nh1_5 rh1_5 nh1_6 rh1_6)) (fun x => Q (ex33_7 x5 x44 m0 xh1_0 xh1_1 xh1_2 xh1_3 xh1_4 nh1_5 rh1_5 nh1_6 rh1_6 x)) o) := by kernel_rfl
theorem ob33_7 (x5 : Int) (x44 : Int) (m0 : List (List AV × AV)) (xh1_0 : Int) (xh1_1 : Int) (xh1_2 : Int) (xh1_3 : Int) (xh1_4 : Int) (nh1_5 : Bool) (rh1_5 : List (List AV)) (nh1_6 : Bool) (rh1_6 : List (List AV)) (p : P33_7) : (d33_7 x5 x44 m0 xh1_0 xh1_1 xh1_2 xh1_3 xh1_4 nh1_5 rh1_5 nh1_6 rh1_6 p).obs := by
  unfold d33_7
  repeat' (first | exact trivial | apply And.intro)
theorem lok33_7 (x5 : Int) (x44 : Int) (x45 : Int) (m0 : List (List AV × AV)) (xh1_0 : Int) (xh1_1 : Int) (xh1_2 : Int) (xh1_3 : Int) (xh1_4 : Int) (nh1_5 : Bool) (rh1_5 : List (List AV)) (nh1_6 : Bool) (rh1_6 : List (List AV)) : LoopOk TA 33 7 c33_7 (hd33_7 x5 x44 x45 m0 xh1_0 xh1_1 xh1_2 xh1_3 xh1_4 nh1_5 rh1_5 nh1_6 rh1_6) (Dt.opt (w33_7 x5 x44 x45 m0 xh1_0 xh1_1 xh1_2 xh1_3 xh1_4 nh1_5 rh1_5 nh1_6 rh1_6) (xd33_7 x5 x44 m0 xh1_0 xh1_1 xh1_2 xh1_3 xh1_4 nh1_5 rh1_5 nh1_6 rh1_6)) :=
  loop_okD cr33 (fun p Q => r33_7 x5 x44 m0 xh1_0 xh1_1 xh1_2 xh1_3 xh1_4 nh1_5 rh1_5 nh1_6 rh1_6 p Q) (fun p => ob33_7 x5 x44 m0 xh1_0 xh1_1 xh1_2 xh1_3 xh1_4 nh1_5 rh1_5 nh1_6 rh1_6 p) (fun x => by
    unfold ex33_7
    repeat' (first | (intro h; cases h; done) | (generalize Nat.beq _ _ = b; cases b))) (fun x r h => by
    simp only [xd33_7, Dt.val_br, Dt.val_ret, ex33_7] at h ⊢
    revert h
    repeat' (first | (intro h; exact (Option.some.inj h).symm) | (generalize Nat.beq _ _ = b; cases b))) x45
theorem r33_13 (x5 : Int) (x65 : Int) (xh1_0 : Int) (xh1_1 : Int) (xh1_2 : Int) (xh1_3 : Int) (xh1_4 : Int) (p : P33_13) (Q : Ex × St → Prop) : wpN TA (cT cs33) lt33 un33 80 (roundR TA 33 13 c33_13 (hd33_13 x5 x65 p.1 p.2.1 xh1_0 xh1_1 xh1_2 xh1_3 xh1_4 p.2.2.1 p.2.2.2.1 p.2.2.2.2.1 p.2.2.2.2.2)) Q = (d33_13 x5 x65 xh1_0 xh1_1 xh1_2 xh1_3 xh1_4 p.1 p.2.1 p.2.2.1 p.2.2.2.1 p.2.2.2.2.1 p.2.2.2.2.2).wp (fun o => Sum.rec (fun p => Q (.normal, hd33_13 x5 x65 p.1 p.2.1 xh1_0 xh1_1 xh1_2 xh1_3 xh1_4 p.2.2.1 p.2.2.2.1 p.2.2.2.2.1 p.2.2.2.2.2)) (fun x => Q (ex33_13 x5 x65 xh1_0 xh1_1 xh1_2 xh1_3 xh1_4 x)) o) := by kernel_rfl
theorem ob33_13 (x5 : Int) (x65 : Int) (xh1_0 : Int) (xh1_1 : Int) (xh1_2 : Int) (xh1_3 : Int) (xh1_4 : Int) (p : P33_13) : (d33_13 x5 x65 xh1_0 xh1_1 xh1_2 xh1_3 xh1_4 p.1 p.2.1 p.2.2.1 p.2.2.2.1 p.2.2.2.2.1 p.2.2.2.2.2).obs := by
  unfold d33_13
  repeat' (first | exact trivial | apply And.intro)
theorem lok33_13 (x5 : Int) (x65 : Int) (x66 : Int) (m0 : List (List AV × AV)) (xh1_0 : Int) (xh1_1 : Int) (xh1_2 : Int) (xh1_3 : Int) (xh1_4 : Int) (nh1_5 : Bool) (rh1_5 : List (List AV)) (nh1_6 : Bool) (rh1_6 : List (List AV)) : LoopOk TA 33 13 c33_13 (hd33_13 x5 x65 x66 m0 xh1_0 xh1_1 xh1_2 xh1_3 xh1_4 nh1_5 rh1_5 nh1_6 rh1_6) (Dt.opt (w33_13 x5 x65 x66 m0 xh1_0 xh1_1 xh1_2 xh1_3 xh1_4 nh1_5 rh1_5 nh1_6 rh1_6) (xd33_13 x5 x65 xh1_0 xh1_1 xh1_2 xh1_3 xh1_4)) :=
  loop_okD cr33 (fun p Q => r33_13 x5 x65 xh1_0 xh1_1 xh1_2 xh1_3 xh1_4 p Q) (fun p => ob33_13 x5 x65 xh1_0 xh1_1 xh1_2 xh1_3 xh1_4 p) (fun x h => by cases h) (by intro x r h; exact (Option.some.inj h).symm) (x66, m0, nh1_5, rh1_5, nh1_6, rh1_6)
theorem r33_5 (xh1_0 : Int) (xh1_1 : Int) (xh1_2 : Int) (xh1_4 : Int) (p : P33_5) (Q : Ex × St → Prop) : wpN TA (cT cs33) lt33 un33 80 (roundR TA 33 5 c33_5 (hd33_5 p.1 xh1_0 xh1_1 xh1_2 p.2.1 xh1_4 p.2.2.1 p.2.2.2.1 p.2.2.2.2.1 p.2.2.2.2.2)) Q = (d33_5 xh1_0 xh1_1 xh1_2 xh1_4 p.1 p.2.1 p.2.2.1 p.2.2.2.1 p.2.2.2.2.1 p.2.2.2.2.2).wp (fun o => Sum.rec (fun p => Q (.normal, hd33_5 p.1 xh1_0 xh1_1 xh1_2 p.2.1 xh1_4 p.2.2.1 p.2.2.2.1 p.2.2.2.2.1 p.2.2.2.2.2)) (fun x => Q (ex33_5 xh1_0 xh1_1 xh1_2 xh1_4 x)) o) := by kernel_rfl
theorem ob33_5 (xh1_0 : Int) (xh1_1 : Int) (xh1_2 : Int) (xh1_4 : Int) (p : P33_5) : (d33_5 xh1_0 xh1_1 xh1_2 xh1_4 p.1 p.2.1 p.2.2.1 p.2.2.2.1 p.2.2.2.2.1 p.2.2.2.2.2).obs := by
  unfold d33_5
  repeat' (first | exact trivial | apply lok33_7 | apply lok33_13 | apply And.intro)
theorem lok33_5 (m0 : List (List AV × AV)) (xh1_0 : Int) (xh1_1 : Int) (xh1_2 : Int) (xh1_3 : Int) (xh1_4 : Int) (nh1_5 : Bool) (rh1_5 : List (List AV)) (nh1_6 : Bool) (rh1_6 : List (List AV)) : LoopOk TA 33 5 c33_5 (hd33_5 m0 xh1_0 xh1_1 xh1_2 xh1_3 xh1_4 nh1_5 rh1_5 nh1_6 rh1_6) (Dt.opt (w33_5 m0 xh1_0 xh1_1 xh1_2 xh1_3 xh1_4 nh1_5 rh1_5 nh1_6 rh1_6) (xd33_5 xh1_0 xh1_1 xh1_2 xh1_4)) :=
  loop_okD cr33 (fun p Q => r33_5 xh1_0 xh1_1 xh1_2 xh1_4 p Q) (fun p => ob33_5 xh1_0 xh1_1 xh1_2 xh1_4 p) (fun x h => by cases h) (by intro x r h; exact (Option.some.inj h).symm) (m0, xh1_3, nh1_5, rh1_5, nh1_6, rh1_6)
abbrev X33 : Type := Bool × (List (List AV × AV)) × Int × Int × Bool × (List (List AV)) × Bool × (List (List AV))
noncomputable def d33 (x1_0 : Int) (x1_1 : Int) (x1_2 : Int) (x1_3 : Int) (x1_4 : Int) (n1_5 : Bool) (r1_5 : List (List AV)) (m0 : List (List AV × AV)) (xh1_0 : Int) (xh1_1 : Int) (xh1_2 : Int) (xh1_3 : Int) (xh1_4 : Int) (nh1_5 : Bool) (rh1_5 : List (List AV)) (nh1_6 : Bool) (rh1_6 : List (List AV)) : Dt X33 :=
  .br ((n1_5 || true) && true)
  (Dt.opt (v91 x1_0 x1_1 x1_2 x1_3 x1_4 n1_5 r1_5 m0 xh1_0 xh1_1 xh1_2 xh1_3 xh1_4 nh1_5 rh1_5 nh1_6 rh1_6) fun y1 =>
    .br (!y1)
    (.ret (false, m0, xh1_3, xh1_4, nh1_5, rh1_5, nh1_6, rh1_6))
    (.br ((n1_5 || true) && true)
      (Dt.opt (v92 n1_5 r1_5) fun y2 =>
        .br ((((m0.all (fun p => canonOks [(.i .i64), (.i .i64)] p.1)) && true) && true) && (y2.1 || true))
        (.ob (LoopOk TA 33 5 c33_5 (hd33_5 (if (hasE [(.int .i64 x1_0), (.int .i64 x1_4)] m0) then setE [(.int .i64 x1_0), (.int .i64 x1_4)] (.sl 25 y2.1 y2.2 .no) m0 else (m0 ++ [([(.int .i64 x1_0), (.int .i64 x1_4)], (.sl 25 y2.1 y2.2 .no))])) xh1_0 xh1_1 xh1_2 xh1_3 x1_3 nh1_5 rh1_5 nh1_6 rh1_6) (Dt.opt (w33_5 (if (hasE [(.int .i64 x1_0), (.int .i64 x1_4)] m0) then setE [(.int .i64 x1_0), (.int .i64 x1_4)] (.sl 25 y2.1 y2.2 .no) m0 else (m0 ++ [([(.int .i64 x1_0), (.int .i64 x1_4)], (.sl 25 y2.1 y2.2 .no))])) xh1_0 xh1_1 xh1_2 xh1_3 x1_3 nh1_5 rh1_5 nh1_6 rh1_6) (xd33_5 xh1_0 xh1_1 xh1_2 x1_3)))
          (Dt.opt (w33_5 (if (hasE [(.int .i64 x1_0), (.int .i64 x1_4)] m0) then setE [(.int .i64 x1_0), (.int .i64 x1_4)] (.sl 25 y2.1 y2.2 .no) m0 else (m0 ++ [([(.int .i64 x1_0), (.int .i64 x1_4)], (.sl 25 y2.1 y2.2 .no))])) xh1_0 xh1_1 xh1_2 xh1_3 x1_3 nh1_5 rh1_5 nh1_6 rh1_6) fun y6 =>
            .ret (true, y6.1, y6.2.1, x1_3, y6.2.2.1, y6.2.2.2.1, y6.2.2.2.2.1, y6.2.2.2.2.2))) (.fail)) (.fail))) (.fail)
noncomputable def v33 (x1_0 : Int) (x1_1 : Int) (x1_2 : Int) (x1_3 : Int) (x1_4 : Int) (n1_5 : Bool) (r1_5 : List (List AV)) (m0 : List (List AV × AV)) (xh1_0 : Int) (xh1_1 : Int) (xh1_2 : Int) (xh1_3 : Int) (xh1_4 : Int) (nh1_5 : Bool) (rh1_5 : List (List AV)) (nh1_6 : Bool) (rh1_6 : List (List AV)) : Option X33 := (d33 x1_0 x1_1 x1_2 x1_3 x1_4 n1_5 r1_5 m0 xh1_0 xh1_1 xh1_2 xh1_3 xh1_4 nh1_5 rh1_5 nh1_6 rh1_6).val
noncomputable def sh33 (x1_0 : Int) (x1_1 : Int) (x1_2 : Int) (x1_3 : Int) (x1_4 : Int) (n1_5 : Bool) (r1_5 : List (List AV)) (m0 : List (List AV × AV)) (xh1_0 : Int) (xh1_1 : Int) (xh1_2 : Int) (xh1_3 : Int) (xh1_4 : Int) (nh1_5 : Bool) (rh1_5 : List (List AV)) (nh1_6 : Bool) (rh1_6 : List (List AV)) (x : X33) : AV × List GB := ((.bool x.1), [(.map x.2.1), (.cells [(.int .i64 xh1_0), (.int .i64 xh1_1), (.int .i64 xh1_2), (.int .i64 x.2.2.1), (.int .i64 x.2.2.2.1), (.sl 11 x.2.2.2.2.1 x.2.2.2.2.2.1 .no), (.sl 25 x.2.2.2.2.2.2.1 x.2.2.2.2.2.2.2 .self), (.mp 0)])])
noncomputable def sd33 (x1_0 : Int) (x1_1 : Int) (x1_2 : Int) (x1_3 : Int) (x1_4 : Int) (n1_5 : Bool) (r1_5 : List (List AV)) (m0 : List (List AV × AV)) (xh1_0 : Int) (xh1_1 : Int) (xh1_2 : Int) (xh1_3 : Int) (xh1_4 : Int) (nh1_5 : Bool) (rh1_5 : List (List AV)) (nh1_6 : Bool) (rh1_6 : List (List AV)) (x : X33) : Dt (AV × List GB) := .ret ((.bool x.1), [(.map x.2.1), (.cells [(.int .i64 xh1_0), (.int .i64 xh1_1), (.int .i64 xh1_2), (.int .i64 x.2.2.1), (.int .i64 x.2.2.2.1), (.sl 11 x.2.2.2.2.1 x.2.2.2.2.2.1 .no), (.sl 25 x.2.2.2.2.2.2.1 x.2.2.2.2.2.2.2 .self), (.mp 0)])])
noncomputable def s33 : FS := guardS [.c (.ex (.gp 1 0)), .agg [.i .i64, .i .i64, .i .i64, .i .i64, .i .i64, .sl 25 .no]] [.map, .cells [.i .i64, .i .i64, .i .i64, .i .i64, .i .i64, .sl 11 .no, .sl 25 .self, .ex (.mp 0)]] fun xs H => Dt.opt (v33 (nth (nth xs 1).cells 0).intOf (nth (nth xs 1).cells 1).intOf (nth (nth xs 1).cells 2).intOf (nth (nth xs 1).cells 3).intOf (nth (nth xs 1).cells 4).intOf (nth (nth xs 1).cells 5).slNil (nth (nth xs 1).cells 5).slRows (gm H 0) (gc H 1 0).intOf (gc H 1 1).intOf (gc H 1 2).intOf (gc H 1 3).intOf (gc H 1 4).intOf (gc H 1 5).slNil (gc H 1 5).slRows (gc H 1 6).slNil (gc H 1 6).slRows) (sd33 (nth (nth xs 1).cells 0).intOf (nth (nth xs 1).cells 1).intOf (nth (nth xs 1).cells 2).intOf (nth (nth xs 1).cells 3).intOf (nth (nth xs 1).cells 4).intOf (nth (nth xs 1).cells 5).slNil (nth (nth xs 1).cells 5).slRows (gm H 0) (gc H 1 0).intOf (gc H 1 1).intOf (gc H 1 2).intOf (gc H 1 3).intOf (gc H 1 4).intOf (gc H 1 5).slNil (gc H 1 5).slRows (gc H 1 6).slNil (gc H 1 6).slRows)
theorem e33 (x1_0 : Int) (x1_1 : Int) (x1_2 : Int) (x1_3 : Int) (x1_4 : Int) (n1_5 : Bool) (r1_5 : List (List AV)) (m0 : List (List AV × AV)) (xh1_0 : Int) (xh1_1 : Int) (xh1_2 : Int) (xh1_3 : Int) (xh1_4 : Int) (nh1_5 : Bool) (rh1_5 : List (List AV)) (nh1_6 : Bool) (rh1_6 : List (List AV)) (Q : AV × List GB → Prop) : wpN TA (cT cs33) lt33 un33 80 (evFunc TA 33 [(.gp 1 0), (.agg [(.int .i64 x1_0), (.int .i64 x1_1), (.int .i64 x1_2), (.int .i64 x1_3), (.int .i64 x1_4), (.sl 25 n1_5 r1_5 .no)])] [(.map m0), (.cells [(.int .i64 xh1_0), (.int .i64 xh1_1), (.int .i64 xh1_2), (.int .i64 xh1_3), (.int .i64 xh1_4), (.sl 11 nh1_5 rh1_5 .no), (.sl 25 nh1_6 rh1_6 .self), (.mp 0)])]) Q = (d33 x1_0 x1_1 x1_2 x1_3 x1_4 n1_5 r1_5 m0 xh1_0 xh1_1 xh1_2 xh1_3 xh1_4 nh1_5 rh1_5 nh1_6 rh1_6).wp (fun x => Q (sh33 x1_0 x1_1 x1_2 x1_3 x1_4 n1_5 r1_5 m0 xh1_0 xh1_1 xh1_2 xh1_3 xh1_4 nh1_5 rh1_5 nh1_6 rh1_6 x)) := by kernel_rfl
theorem o33 (x1_0 : Int) (x1_1 : Int) (x1_2 : Int) (x1_3 : Int) (x1_4 : Int) (n1_5 : Bool) (r1_5 : List (List AV)) (m0 : List (List AV × AV)) (xh1_0 : Int) (xh1_1 : Int) (xh1_2 : Int) (xh1_3 : Int) (xh1_4 : Int) (nh1_5 : Bool) (rh1_5 : List (List AV)) (nh1_6 : Bool) (rh1_6 : List (List AV)) : (d33 x1_0 x1_1 x1_2 x1_3 x1_4 n1_5 r1_5 m0 xh1_0 xh1_1 xh1_2 xh1_3 xh1_4 nh1_5 rh1_5 nh1_6 rh1_6).obs := by
  unfold d33
  repeat' (first | exact trivial | apply lok33_7 | apply lok33_13 | apply lok33_5 | apply And.intro)
theorem k33 : FRight TA 33 s33 := fright (D := fun xs H => d33 (nth (nth xs 1).cells 0).intOf (nth (nth xs 1).cells 1).intOf (nth (nth xs 1).cells 2).intOf (nth (nth xs 1).cells 3).intOf (nth (nth xs 1).cells 4).intOf (nth (nth xs 1).cells 5).slNil (nth (nth xs 1).cells 5).slRows (gm H 0) (gc H 1 0).intOf (gc H 1 1).intOf (gc H 1 2).intOf (gc H 1 3).intOf (gc H 1 4).intOf (gc H 1 5).slNil (gc H 1 5).slRows (gc H 1 6).slNil (gc H 1 6).slRows) (sh := fun xs H => sh33 (nth (nth xs 1).cells 0).intOf (nth (nth xs 1).cells 1).intOf (nth (nth xs 1).cells 2).intOf (nth (nth xs 1).cells 3).intOf (nth (nth xs 1).cells 4).intOf (nth (nth xs 1).cells 5).slNil (nth (nth xs 1).cells 5).slRows (gm H 0) (gc H 1 0).intOf (gc H 1 1).intOf (gc H 1 2).intOf (gc H 1 3).intOf (gc H 1 4).intOf (gc H 1 5).slNil (gc H 1 5).slRows (gc H 1 6).slNil (gc H 1 6).slRows) cr33 (fun xs H Q => e33 (nth (nth xs 1).cells 0).intOf (nth (nth xs 1).cells 1).intOf (nth (nth xs 1).cells 2).intOf (nth (nth xs 1).cells 3).intOf (nth (nth xs 1).cells 4).intOf (nth (nth xs 1).cells 5).slNil (nth (nth xs 1).cells 5).slRows (gm H 0) (gc H 1 0).intOf (gc H 1 1).intOf (gc H 1 2).intOf (gc H 1 3).intOf (gc H 1 4).intOf (gc H 1 5).slNil (gc H 1 5).slRows (gc H 1 6).slNil (gc H 1 6).slRows Q) (fun xs H => o33 (nth (nth xs 1).cells 0).intOf (nth (nth xs 1).cells 1).intOf (nth (nth xs 1).cells 2).intOf (nth (nth xs 1).cells 3).intOf (nth (nth xs 1).cells 4).intOf (nth (nth xs 1).cells 5).slNil (nth (nth xs 1).cells 5).slRows (gm H 0) (gc H 1 0).intOf (gc H 1 1).intOf (gc H 1 2).intOf (gc H 1 3).intOf (gc H 1 4).intOf (gc H 1 5).slNil (gc H 1 5).slRows (gc H 1 6).slNil (gc H 1 6).slRows) (by intro xs H x r h; exact (Option.some.inj h).symm)
/-! (*vedette/view.View).Things -/
noncomputable def un37 : Nat → Bool := fun _ => false
noncomputable def cs37 : List (Nat × FS) := [(88, s88)]
theorem cr37 : CRight TA (cT cs37) := cT_right (cT_cons k88 cT_nil)
noncomputable def lt37 : LT := fun rid st => .fail
abbrev X37 : Type := Bool × (List (List AV))
noncomputable def d37 (m0 : List (List AV × AV)) (xh1_0 : Int) (xh1_1 : Int) (xh1_2 : Int) (xh1_3 : Int) (xh1_4 : Int) (nh1_5 : Bool) (rh1_5 : List (List AV)) (nh1_6 : Bool) (rh1_6 : List (List AV)) : Dt X37 :=
  .br ((nh1_5 || true) && true)
  (Dt.opt (v88 nh1_5 rh1_5) fun y1 =>
    .ret (y1.1, y1.2)) (.fail)
noncomputable def v37 (m0 : List (List AV × AV)) (xh1_0 : Int) (xh1_1 : Int) (xh1_2 : Int) (xh1_3 : Int) (xh1_4 : Int) (nh1_5 : Bool) (rh1_5 : List (List AV)) (nh1_6 : Bool) (rh1_6 : List (List AV)) : Option X37 := (d37 m0 xh1_0 xh1_1 xh1_2 xh1_3 xh1_4 nh1_5 rh1_5 nh1_6 rh1_6).val
noncomputable def sh37 (m0 : List (List AV × AV)) (xh1_0 : Int) (xh1_1 : Int) (xh1_2 : Int) (xh1_3 : Int) (xh1_4 : Int) (nh1_5 : Bool) (rh1_5 : List (List AV)) (nh1_6 : Bool) (rh1_6 : List (List AV)) (x : X37) : AV × List GB := ((.sl 11 x.1 x.2 (.tc 0)), [(.map m0), (.cells [(.int .i64 xh1_0), (.int .i64 xh1_1), (.int .i64 xh1_2), (.int .i64 xh1_3), (.int .i64 xh1_4), (.sl 11 nh1_5 rh1_5 .no), (.sl 25 nh1_6 rh1_6 .self), (.mp 0)])])
noncomputable def sd37 (m0 : List (List AV × AV)) (xh1_0 : Int) (xh1_1 : Int) (xh1_2 : Int) (xh1_3 : Int) (xh1_4 : Int) (nh1_5 : Bool) (rh1_5 : List (List AV)) (nh1_6 : Bool) (rh1_6 : List (List AV)) (x : X37) : Dt (AV × List GB) := .ret ((.sl 11 x.1 x.2 (.tc 0)), [(.map m0), (.cells [(.int .i64 xh1_0), (.int .i64 xh1_1), (.int .i64 xh1_2), (.int .i64 xh1_3), (.int .i64 xh1_4), (.sl 11 nh1_5 rh1_5 .no), (.sl 25 nh1_6 rh1_6 .self), (.mp 0)])])
noncomputable def s37 : FS := guardS [.c (.ex (.gp 1 0))] [.map, .cells [.i .i64, .i .i64, .i .i64, .i .i64, .i .i64, .sl 11 .no, .sl 25 .self, .ex (.mp 0)]] fun xs H => Dt.opt (v37 (gm H 0) (gc H 1 0).intOf (gc H 1 1).intOf (gc H 1 2).intOf (gc H 1 3).intOf (gc H 1 4).intOf (gc H 1 5).slNil (gc H 1 5).slRows (gc H 1 6).slNil (gc H 1 6).slRows) (sd37 (gm H 0) (gc H 1 0).intOf (gc H 1 1).intOf (gc H 1 2).intOf (gc H 1 3).intOf (gc H 1 4).intOf (gc H 1 5).slNil (gc H 1 5).slRows (gc H 1 6).slNil (gc H 1 6).slRows)
theorem e37 (m0 : List (List AV × AV)) (xh1_0 : Int) (xh1_1 : Int) (xh1_2 : Int) (xh1_3 : Int) (xh1_4 : Int) (nh1_5 : Bool) (rh1_5 : List (List AV)) (nh1_6 : Bool) (rh1_6 : List (List AV)) (Q : AV × List GB → Prop) : wpN TA (cT cs37) lt37 un37 80 (evFunc TA 37 [(.gp 1 0)] [(.map m0), (.cells [(.int .i64 xh1_0), (.int .i64 xh1_1), (.int .i64 xh1_2), (.int .i64 xh1_3), (.int .i64 xh1_4), (.sl 11 nh1_5 rh1_5 .no), (.sl 25 nh1_6 rh1_6 .self), (.mp 0)])]) Q = (d37 m0 xh1_0 xh1_1 xh1_2 xh1_3 xh1_4 nh1_5 rh1_5 nh1_6 rh1_6).wp (fun x => Q (sh37 m0 xh1_0 xh1_1 xh1_2 xh1_3 xh1_4 nh1_5 rh1_5 nh1_6 rh1_6 x)) := by kernel_rfl
theorem o37 (m0 : List (List AV × AV)) (xh1_0 : Int) (xh1_1 : Int) (xh1_2 : Int) (xh1_3 : Int) (xh1_4 : Int) (nh1_5 : Bool) (rh1_5 : List (List AV)) (nh1_6 : Bool) (rh1_6 : List (List AV)) : (d37 m0 xh1_0 xh1_1 xh1_2 xh1_3 xh1_4 nh1_5 rh1_5 nh1_6 rh1_6).obs := by
  unfold d37
  repeat' (first | exact trivial | apply And.intro)
theorem k37 : FRight TA 37 s37 := fright (D := fun xs H => d37 (gm H 0) (gc H 1 0).intOf (gc H 1 1).intOf (gc H 1 2).intOf (gc H 1 3).intOf (gc H 1 4).intOf (gc H 1 5).slNil (gc H 1 5).slRows (gc H 1 6).slNil (gc H 1 6).slRows) (sh := fun xs H => sh37 (gm H 0) (gc H 1 0).intOf (gc H 1 1).intOf (gc H 1 2).intOf (gc H 1 3).intOf (gc H 1 4).intOf (gc H 1 5).slNil (gc H 1 5).slRows (gc H 1 6).slNil (gc H 1 6).slRows) cr37 (fun xs H Q => e37 (gm H 0) (gc H 1 0).intOf (gc H 1 1).intOf (gc H 1 2).intOf (gc H 1 3).intOf (gc H 1 4).intOf (gc H 1 5).slNil (gc H 1 5).slRows (gc H 1 6).slNil (gc H 1 6).slRows Q) (fun xs H => o37 (gm H 0) (gc H 1 0).intOf (gc H 1 1).intOf (gc H 1 2).intOf (gc H 1 3).intOf (gc H 1 4).intOf (gc H 1 5).slNil (gc H 1 5).slRows (gc H 1 6).slNil (gc H 1 6).slRows) (by intro xs H x r h; exact (Option.some.inj h).symm)
/-! (*vedette/view.View).Beat -/
noncomputable def un35 : Nat → Bool := fun _ => false
noncomputable def cs35 : List (Nat × FS) := []
theorem cr35 : CRight TA (cT cs35) := cT_right cT_nil
noncomputable def lt35 : LT := fun rid st => .fail
abbrev X35 : Type := Unit
noncomputable def d35 (m0 : List (List AV × AV)) (xh1_0 : Int) (xh1_1 : Int) (xh1_2 : Int) (xh1_3 : Int) (xh1_4 : Int) (nh1_5 : Bool) (rh1_5 : List (List AV)) (nh1_6 : Bool) (rh1_6 : List (List AV)) : Dt X35 :=
  .ret ()
noncomputable def v35 (m0 : List (List AV × AV)) (xh1_0 : Int) (xh1_1 : Int) (xh1_2 : Int) (xh1_3 : Int) (xh1_4 : Int) (nh1_5 : Bool) (rh1_5 : List (List AV)) (nh1_6 : Bool) (rh1_6 : List (List AV)) : Option X35 := (d35 m0 xh1_0 xh1_1 xh1_2 xh1_3 xh1_4 nh1_5 rh1_5 nh1_6 rh1_6).val
noncomputable def sh35 (m0 : List (List AV × AV)) (xh1_0 : Int) (xh1_1 : Int) (xh1_2 : Int) (xh1_3 : Int) (xh1_4 : Int) (nh1_5 : Bool) (rh1_5 : List (List AV)) (nh1_6 : Bool) (rh1_6 : List (List AV)) (x : X35) : AV × List GB := ((.int .i64 xh1_3), [(.map m0), (.cells [(.int .i64 xh1_0), (.int .i64 xh1_1), (.int .i64 xh1_2), (.int .i64 xh1_3), (.int .i64 xh1_4), (.sl 11 nh1_5 rh1_5 .no), (.sl 25 nh1_6 rh1_6 .self), (.mp 0)])])
noncomputable def sd35 (m0 : List (List AV × AV)) (xh1_0 : Int) (xh1_1 : Int) (xh1_2 : Int) (xh1_3 : Int) (xh1_4 : Int) (nh1_5 : Bool) (rh1_5 : List (List AV)) (nh1_6 : Bool) (rh1_6 : List (List AV)) (x : X35) : Dt (AV × List GB) := .ret ((.int .i64 xh1_3), [(.map m0), (.cells [(.int .i64 xh1_0), (.int .i64 xh1_1), (.int .i64 xh1_2), (.int .i64 xh1_3), (.int .i64 xh1_4), (.sl 11 nh1_5 rh1_5 .no), (.sl 25 nh1_6 rh1_6 .self), (.mp 0)])])
noncomputable def s35 : FS := guardS [.c (.ex (.gp 1 0))] [.map, .cells [.i .i64, .i .i64, .i .i64, .i .i64, .i .i64, .sl 11 .no, .sl 25 .self, .ex (.mp 0)]] fun xs H => Dt.opt (v35 (gm H 0) (gc H 1 0).intOf (gc H 1 1).intOf (gc H 1 2).intOf (gc H 1 3).intOf (gc H 1 4).intOf (gc H 1 5).slNil (gc H 1 5).slRows (gc H 1 6).slNil (gc H 1 6).slRows) (sd35 (gm H 0) (gc H 1 0).intOf (gc H 1 1).intOf (gc H 1 2).intOf (gc H 1 3).intOf (gc H 1 4).intOf (gc H 1 5).slNil (gc H 1 5).slRows (gc H 1 6).slNil (gc H 1 6).slRows)
theorem e35 (m0 : List (List AV × AV)) (xh1_0 : Int) (xh1_1 : Int) (xh1_2 : Int) (xh1_3 : Int) (xh1_4 : Int) (nh1_5 : Bool) (rh1_5 : List (List AV)) (nh1_6 : Bool) (rh1_6 : List (List AV)) (Q : AV × List GB → Prop) : wpN TA (cT cs35) lt35 un35 80 (evFunc TA 35 [(.gp 1 0)] [(.map m0), (.cells [(.int .i64 xh1_0), (.int .i64 xh1_1), (.int .i64 xh1_2), (.int .i64 xh1_3), (.int .i64 xh1_4), (.sl 11 nh1_5 rh1_5 .no), (.sl 25 nh1_6 rh1_6 .self), (.mp 0)])]) Q = (d35 m0 xh1_0 xh1_1 xh1_2 xh1_3 xh1_4 nh1_5 rh1_5 nh1_6 rh1_6).wp (fun x => Q (sh35 m0 xh1_0 xh1_1 xh1_2 xh1_3 xh1_4 nh1_5 rh1_5 nh1_6 rh1_6 x)) := by kernel_rfl
theorem o35 (m0 : List (List AV × AV)) (xh1_0 : Int) (xh1_1 : Int) (xh1_2 : Int) (xh1_3 : Int) (xh1_4 : Int) (nh1_5 : Bool) (rh1_5 : List (List AV)) (nh1_6 : Bool) (rh1_6 : List (List AV)) : (d35 m0 xh1_0 xh1_1 xh1_2 xh1_3 xh1_4 nh1_5 rh1_5 nh1_6 rh1_6).obs := by
  unfold d35
  repeat' (first | exact trivial | apply And.intro)
theorem k35 : FRight TA 35 s35 := fright (D := fun xs H => d35 (gm H 0) (gc H 1 0).intOf (gc H 1 1).intOf (gc H 1 2).intOf (gc H 1 3).intOf (gc H 1 4).intOf (gc H 1 5).slNil (gc H 1 5).slRows (gc H 1 6).slNil (gc H 1 6).slRows) (sh := fun xs H => sh35 (gm H 0) (gc H 1 0).intOf (gc H 1 1).intOf (gc H 1 2).intOf (gc H 1 3).intOf (gc H 1 4).intOf (gc H 1 5).slNil (gc H 1 5).slRows (gc H 1 6).slNil (gc H 1 6).slRows) cr35 (fun xs H Q => e35 (gm H 0) (gc H 1 0).intOf (gc H 1 1).intOf (gc H 1 2).intOf (gc H 1 3).intOf (gc H 1 4).intOf (gc H 1 5).slNil (gc H 1 5).slRows (gc H 1 6).slNil (gc H 1 6).slRows Q) (fun xs H => o35 (gm H 0) (gc H 1 0).intOf (gc H 1 1).intOf (gc H 1 2).intOf (gc H 1 3).intOf (gc H 1 4).intOf (gc H 1 5).slNil (gc H 1 5).slRows (gc H 1 6).slNil (gc H 1 6).slRows) (by intro xs H x r h; exact (Option.some.inj h).symm)
/-! (*vedette/view.View).Log -/
noncomputable def un39 : Nat → Bool := fun _ => false
noncomputable def cs39 : List (Nat × FS) := [(92, s92)]
theorem cr39 : CRight TA (cT cs39) := cT_right (cT_cons k92 cT_nil)
noncomputable def lt39 : LT := fun rid st => .fail
abbrev X39 : Type := Bool × (List (List AV))
noncomputable def d39 (m0 : List (List AV × AV)) (xh1_0 : Int) (xh1_1 : Int) (xh1_2 : Int) (xh1_3 : Int) (xh1_4 : Int) (nh1_5 : Bool) (rh1_5 : List (List AV)) (nh1_6 : Bool) (rh1_6 : List (List AV)) : Dt X39 :=
  .br ((nh1_6 || true) && true)
  (Dt.opt (v92 nh1_6 rh1_6) fun y1 =>
    .ret (y1.1, y1.2)) (.fail)
noncomputable def v39 (m0 : List (List AV × AV)) (xh1_0 : Int) (xh1_1 : Int) (xh1_2 : Int) (xh1_3 : Int) (xh1_4 : Int) (nh1_5 : Bool) (rh1_5 : List (List AV)) (nh1_6 : Bool) (rh1_6 : List (List AV)) : Option X39 := (d39 m0 xh1_0 xh1_1 xh1_2 xh1_3 xh1_4 nh1_5 rh1_5 nh1_6 rh1_6).val
noncomputable def sh39 (m0 : List (List AV × AV)) (xh1_0 : Int) (xh1_1 : Int) (xh1_2 : Int) (xh1_3 : Int) (xh1_4 : Int) (nh1_5 : Bool) (rh1_5 : List (List AV)) (nh1_6 : Bool) (rh1_6 : List (List AV)) (x : X39) : AV × List GB := ((.sl 25 x.1 x.2 (.tc 0)), [(.map m0), (.cells [(.int .i64 xh1_0), (.int .i64 xh1_1), (.int .i64 xh1_2), (.int .i64 xh1_3), (.int .i64 xh1_4), (.sl 11 nh1_5 rh1_5 .no), (.sl 25 nh1_6 rh1_6 .self), (.mp 0)])])
noncomputable def sd39 (m0 : List (List AV × AV)) (xh1_0 : Int) (xh1_1 : Int) (xh1_2 : Int) (xh1_3 : Int) (xh1_4 : Int) (nh1_5 : Bool) (rh1_5 : List (List AV)) (nh1_6 : Bool) (rh1_6 : List (List AV)) (x : X39) : Dt (AV × List GB) := .ret ((.sl 25 x.1 x.2 (.tc 0)), [(.map m0), (.cells [(.int .i64 xh1_0), (.int .i64 xh1_1), (.int .i64 xh1_2), (.int .i64 xh1_3), (.int .i64 xh1_4), (.sl 11 nh1_5 rh1_5 .no), (.sl 25 nh1_6 rh1_6 .self), (.mp 0)])])
noncomputable def s39 : FS := guardS [.c (.ex (.gp 1 0))] [.map, .cells [.i .i64, .i .i64, .i .i64, .i .i64, .i .i64, .sl 11 .no, .sl 25 .self, .ex (.mp 0)]] fun xs H => Dt.opt (v39 (gm H 0) (gc H 1 0).intOf (gc H 1 1).intOf (gc H 1 2).intOf (gc H 1 3).intOf (gc H 1 4).intOf (gc H 1 5).slNil (gc H 1 5).slRows (gc H 1 6).slNil (gc H 1 6).slRows) (sd39 (gm H 0) (gc H 1 0).intOf (gc H 1 1).intOf (gc H 1 2).intOf (gc H 1 3).intOf (gc H 1 4).intOf (gc H 1 5).slNil (gc H 1 5).slRows (gc H 1 6).slNil (gc H 1 6).slRows)
theorem e39 (m0 : List (List AV × AV)) (xh1_0 : Int) (xh1_1 : Int) (xh1_2 : Int) (xh1_3 : Int) (xh1_4 : Int) (nh1_5 : Bool) (rh1_5 : List (List AV)) (nh1_6 : Bool) (rh1_6 : List (List AV)) (Q : AV × List GB → Prop) : wpN TA (cT cs39) lt39 un39 80 (evFunc TA 39 [(.gp 1 0)] [(.map m0), (.cells [(.int .i64 xh1_0), (.int .i64 xh1_1), (.int .i64 xh1_2), (.int .i64 xh1_3), (.int .i64 xh1_4), (.sl 11 nh1_5 rh1_5 .no), (.sl 25 nh1_6 rh1_6 .self), (.mp 0)])]) Q = (d39 m0 xh1_0 xh1_1 xh1_2 xh1_3 xh1_4 nh1_5 rh1_5 nh1_6 rh1_6).wp (fun x => Q (sh39 m0 xh1_0 xh1_1 xh1_2 xh1_3 xh1_4 nh1_5 rh1_5 nh1_6 rh1_6 x)) := by kernel_rfl
theorem o39 (m0 : List (List AV × AV)) (xh1_0 : Int) (xh1_1 : Int) (xh1_2 : Int) (xh1_3 : Int) (xh1_4 : Int) (nh1_5 : Bool) (rh1_5 : List (List AV)) (nh1_6 : Bool) (rh1_6 : List (List AV)) : (d39 m0 xh1_0 xh1_1 xh1_2 xh1_3 xh1_4 nh1_5 rh1_5 nh1_6 rh1_6).obs := by
  unfold d39
  repeat' (first | exact trivial | apply And.intro)
theorem k39 : FRight TA 39 s39 := fright (D := fun xs H => d39 (gm H 0) (gc H 1 0).intOf (gc H 1 1).intOf (gc H 1 2).intOf (gc H 1 3).intOf (gc H 1 4).intOf (gc H 1 5).slNil (gc H 1 5).slRows (gc H 1 6).slNil (gc H 1 6).slRows) (sh := fun xs H => sh39 (gm H 0) (gc H 1 0).intOf (gc H 1 1).intOf (gc H 1 2).intOf (gc H 1 3).intOf (gc H 1 4).intOf (gc H 1 5).slNil (gc H 1 5).slRows (gc H 1 6).slNil (gc H 1 6).slRows) cr39 (fun xs H Q => e39 (gm H 0) (gc H 1 0).intOf (gc H 1 1).intOf (gc H 1 2).intOf (gc H 1 3).intOf (gc H 1 4).intOf (gc H 1 5).slNil (gc H 1 5).slRows (gc H 1 6).slNil (gc H 1 6).slRows Q) (fun xs H => o39 (gm H 0) (gc H 1 0).intOf (gc H 1 1).intOf (gc H 1 2).intOf (gc H 1 3).intOf (gc H 1 4).intOf (gc H 1 5).slNil (gc H 1 5).slRows (gc H 1 6).slNil (gc H 1 6).slRows) (by intro xs H x r h; exact (Option.some.inj h).symm)
/-! vedette/vedettelaw19.ViewBad -/
noncomputable def un8 : Nat → Bool := fun _ => false
noncomputable def cs8 : List (Nat × FS) := [(29, s29), (31, s31), (41, s41), (33, s33), (37, s37), (35, s35), (39, s39)]
theorem cr8 : CRight TA (cT cs8) := cT_right (cT_cons k29 (cT_cons k31 (cT_cons k41 (cT_cons k33 (cT_cons k37 (cT_cons k35 (cT_cons k39 cT_nil)))))))
noncomputable def lt8 : LT := fun rid st => .fail
abbrev X8 : Type := Bool × (List (List AV × AV)) × Int × Int × Int × Bool × (List (List AV)) × Bool × (List (List AV))
noncomputable def d8 (x0 : Int) (x1 : Int) : Dt X8 :=
  Dt.opt (v29) fun y1 =>
  Dt.opt (v31 0 1 2) fun y2 =>
  Dt.opt (v41 (wrapF .i64 x0)) fun y3 =>
  .br (decide ((y3.length + 1) ≤ 268435456))
  (Dt.opt (v33 0 0 1 0 0 false (y3 ++ ([[(.int .i64 3), (.int .i64 (wrapF .i64 ((wrapF .i64 x0) + 1))), (.int .i64 0), (.int .i64 0), (.int .i64 0), (.int .i64 0), (.str []), (.int .i64 0), (.str []), (.int .i64 0), (.str []), (.int .i64 0), (.str []), (.int .i64 0), (.int .u8 0), (.int .i64 0), (.int .i64 0), (.int .i64 0), (.str []), (.int .i64 0), (.str []), (.int .i64 0), (.str []), (.int .i64 0), (.str [])]] : List (List AV))) [] 0 1 y2 (-1) (-1) true [] true []) fun y4 =>
    Dt.opt (v41 (wrapF .i64 x1)) fun y5 =>
    Dt.opt (v33 1 0 1 0 0 false y5 y4.2.1 0 1 y2 y4.2.2.1 y4.2.2.2.1 y4.2.2.2.2.1 y4.2.2.2.2.2.1 y4.2.2.2.2.2.2.1 y4.2.2.2.2.2.2.2) fun y6 =>
    Dt.opt (v37 y6.2.1 0 1 y2 y6.2.2.1 y6.2.2.2.1 y6.2.2.2.2.1 y6.2.2.2.2.2.1 y6.2.2.2.2.2.2.1 y6.2.2.2.2.2.2.2) fun y7 =>
    .br y4.1
    (.br y6.1
      (Dt.opt (v35 y6.2.1 0 1 y2 y6.2.2.1 y6.2.2.2.1 y6.2.2.2.2.1 y6.2.2.2.2.2.1 y6.2.2.2.2.2.2.1 y6.2.2.2.2.2.2.2) fun y8 =>
        .br (y6.2.2.1 == 0)
        (.br ((y7.2.length : Int) == 1)
          (.br ((decide (0 < (y7.2.length : Int))) && true)
            (.br (epOk [(.i .i64)] (y7.2.getD 0 []) 0)
              (.br ((nth (y7.2.getD 0 []) 0).intOf == (wrapF .i64 x1))
                (Dt.opt (v39 y6.2.1 0 1 y2 y6.2.2.1 y6.2.2.2.1 y6.2.2.2.2.1 y6.2.2.2.2.2.1 y6.2.2.2.2.2.2.1 y6.2.2.2.2.2.2.2) fun y9 =>
                  .ret (((y9.2.length : Int) == 1), y6.2.1, y2, y6.2.2.1, y6.2.2.2.1, y6.2.2.2.2.1, y6.2.2.2.2.2.1, y6.2.2.2.2.2.2.1, y6.2.2.2.2.2.2.2))
                (.ret (false, y6.2.1, y2, y6.2.2.1, y6.2.2.2.1, y6.2.2.2.2.1, y6.2.2.2.2.2.1, y6.2.2.2.2.2.2.1, y6.2.2.2.2.2.2.2))) (.fail)) (.fail))
          (.ret (false, y6.2.1, y2, y6.2.2.1, y6.2.2.2.1, y6.2.2.2.2.1, y6.2.2.2.2.2.1, y6.2.2.2.2.2.2.1, y6.2.2.2.2.2.2.2)))
        (.ret (false, y6.2.1, y2, y6.2.2.1, y6.2.2.2.1, y6.2.2.2.2.1, y6.2.2.2.2.2.1, y6.2.2.2.2.2.2.1, y6.2.2.2.2.2.2.2)))
      (.ret (false, y6.2.1, y2, y6.2.2.1, y6.2.2.2.1, y6.2.2.2.2.1, y6.2.2.2.2.2.1, y6.2.2.2.2.2.2.1, y6.2.2.2.2.2.2.2)))
    (.ret (false, y6.2.1, y2, y6.2.2.1, y6.2.2.2.1, y6.2.2.2.2.1, y6.2.2.2.2.2.1, y6.2.2.2.2.2.2.1, y6.2.2.2.2.2.2.2))) (.fail)
noncomputable def v8 (x0 : Int) (x1 : Int) : Option X8 := (d8 x0 x1).val
noncomputable def sh8 (x0 : Int) (x1 : Int) (x : X8) : AV × List GB := ((.bool x.1), [(.map x.2.1), (.cells [(.int .i64 0), (.int .i64 1), (.int .i64 x.2.2.1), (.int .i64 x.2.2.2.1), (.int .i64 x.2.2.2.2.1), (.sl 11 x.2.2.2.2.2.1 x.2.2.2.2.2.2.1 .no), (.sl 25 x.2.2.2.2.2.2.2.1 x.2.2.2.2.2.2.2.2 .self), (.mp 0)])])
noncomputable def sd8 (x0 : Int) (x1 : Int) (x : X8) : Dt (AV × List GB) := .ret ((.bool x.1), [(.map x.2.1), (.cells [(.int .i64 0), (.int .i64 1), (.int .i64 x.2.2.1), (.int .i64 x.2.2.2.1), (.int .i64 x.2.2.2.2.1), (.sl 11 x.2.2.2.2.2.1 x.2.2.2.2.2.2.1 .no), (.sl 25 x.2.2.2.2.2.2.2.1 x.2.2.2.2.2.2.2.2 .self), (.mp 0)])])
noncomputable def s8 : FS := guardS [.c (.i .u8), .c (.i .u8)] [] fun xs H => Dt.opt (v8 (nth xs 0).intOf (nth xs 1).intOf) (sd8 (nth xs 0).intOf (nth xs 1).intOf)
theorem e8 (x0 : Int) (x1 : Int) (Q : AV × List GB → Prop) : wpN TA (cT cs8) lt8 un8 80 (evFunc TA 8 [(.int .u8 x0), (.int .u8 x1)] []) Q = (d8 x0 x1).wp (fun x => Q (sh8 x0 x1 x)) := by kernel_rfl
theorem o8 (x0 : Int) (x1 : Int) : (d8 x0 x1).obs := by
  unfold d8
  repeat' (first | exact trivial | apply And.intro)
theorem k8 : FRight TA 8 s8 := fright (D := fun xs H => d8 (nth xs 0).intOf (nth xs 1).intOf) (sh := fun xs H => sh8 (nth xs 0).intOf (nth xs 1).intOf) cr8 (fun xs H Q => e8 (nth xs 0).intOf (nth xs 1).intOf Q) (fun xs H => o8 (nth xs 0).intOf (nth xs 1).intOf) (by intro xs H x r h; exact (Option.some.inj h).symm)
end Go.Ab
