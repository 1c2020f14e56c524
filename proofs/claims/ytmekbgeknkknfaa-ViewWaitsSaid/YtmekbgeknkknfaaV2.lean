/- A view: what its functions come to. -/
import Derived.Test.YtmekbgeknkknfaaV1
import Derived.Test.YtmekbgeknkknfaaL2
set_option linter.unusedVariables false
set_option linter.unusedSimpArgs false
set_option linter.unusedSectionVars false
namespace Go.Ab

theorem first_scan {α : Type} {step : Int → Dt (Int ⊕ (Nat × Int))} (l : List α) (p : α → Bool) (hstep : ∀ (k : Nat) (h : k < l.length), (step (k : Int)).val = some (bif p l[k] then .inr (0, (k : Int)) else .inl ((k + 1 : Nat) : Int)))
    (hend : (step (l.length : Int)).val = some (.inr (1, default))) : loopV step 0 = some (bif l.any p then (0, firstP p l 0) else (1, 0)) := by
  rw [← foldX_first p l 0]
  refine loop_fold (step := step) l (fun _ (k : Nat) => (k : Int)) _ _ (fun k s => s = k) (fun k s h hi => ?_) (fun s hi => ?_) 0 rfl
  · subst hi
    refine ⟨?_, fun s' hs => ?_⟩
    · rw [hstep s h]
      cases p l[s] <;> rfl
    · cases hq : p l[s] with
      | true => rw [hq] at hs; cases hs
      | false => rw [hq] at hs; cases hs; rfl
  · subst hi
    exact hend

theorem v154_eq (e : Ev) : v154 e.k e.id e.t.id e.t.x e.t.y e.t.a.n e.t.a.s e.t.b.n e.t.b.s e.t.c.n e.t.c.s e.t.d.n e.t.d.s e.e.id e.e.m e.e.x e.e.y e.e.a.n e.e.a.s e.e.b.n e.e.b.s e.e.c.n e.e.c.s e.e.d.n e.e.d.s = some (!e.ok) := by
  simp only [v154, d154, v25_eq, Dt.val_some, Dt.val_ret]
theorem v162_eq (n : Bool) (l : List Ev) (hl : l.length ≤ 9223372036854775807) : v162 n (l.map Ev.enc) = some (firstP (fun e => !e.ok) l 0) := by
  have hw : w162_2 n (l.map Ev.enc) ((l.map Ev.enc).length : Int) 0 = some (bif l.any (fun e => !e.ok) then (0, firstP (fun e => !e.ok) l 0) else (1, 0)) := by
    refine first_scan (step := fun p : P162_2 => d162_2 n (l.map Ev.enc) ((l.map Ev.enc).length : Int) p) l (fun e => !e.ok) (fun k h => ?_) ?_
    · have h' : k < (l.map Ev.enc).length := by simpa using h
      show (d162_2 n (l.map Ev.enc) ((l.map Ev.enc).length : Int) (k : Int)).val = _
      unfold d162_2
      rw [Dt.val_yes (by simpa using h), Dt.val_yes (idx_ok h'), toNat_cast, getD_map _ _ _ h, Dt.val_yes (epOk_ev _)]
      have hv : v154 (nth l[k].enc 0).intOf (nth l[k].enc 1).intOf (nth l[k].enc 2).intOf (nth l[k].enc 3).intOf (nth l[k].enc 4).intOf (nth l[k].enc 5).intOf (nth l[k].enc 6).strOf (nth l[k].enc 7).intOf (nth l[k].enc 8).strOf (nth l[k].enc 9).intOf (nth l[k].enc 10).strOf (nth l[k].enc 11).intOf (nth l[k].enc 12).strOf (nth l[k].enc 13).intOf (nth l[k].enc 14).intOf (nth l[k].enc 15).intOf (nth l[k].enc 16).intOf (nth l[k].enc 17).intOf (nth l[k].enc 18).strOf (nth l[k].enc 19).intOf (nth l[k].enc 20).strOf (nth l[k].enc 21).intOf (nth l[k].enc 22).strOf (nth l[k].enc 23).intOf (nth l[k].enc 24).strOf = some (!l[k].ok) := v154_eq l[k]
      rw [hv, Dt.val_some, Dt.val_br, next_ok h hl]
      cases l[k].ok <;> rfl
    · show (d162_2 n (l.map Ev.enc) ((l.map Ev.enc).length : Int) (l.length : Int)).val = _
      unfold d162_2
      rw [Dt.val_no (by simp)]
      rfl
  unfold v162 d162
  rw [Dt.val_ob, hw, Dt.val_some]
  rcases firstP_neg (fun e : Ev => !e.ok) l 0 with ⟨h1, h2⟩ | ⟨h1, h2⟩
  · rw [h2]
    have : firstP (fun e : Ev => !e.ok) l 0 = -1 := by
      have key : ∀ (l : List Ev) k, l.any (fun f => !f.ok) = false → firstP (fun f : Ev => !f.ok) l k = -1 := by
        intro l
        induction l with
        | nil => intro k _; rfl
        | cons a l ih =>
          intro k h
          simp only [List.any_cons, Bool.or_eq_false_iff] at h
          simp only [firstP, h.1, cond_false]
          exact ih (k + 1) h.2
      exact key l 0 h2
    rw [this]
    rfl
  · rw [h2]
    rfl
theorem v99_eq (n : Bool) (l : List Ev) (hl : l.length ≤ 9223372036854775807) : v99 n (l.map Ev.enc) = some (l.any fun e => !e.ok) := by
  unfold v99 d99
  rw [v162_eq n l hl, Dt.val_some, Dt.val_ret]
  rcases firstP_neg (fun f : Ev => !f.ok) l 0 with ⟨h1, h2⟩ | ⟨h1, h2⟩
  · rw [h2]; simp; omega
  · rw [h2]; simp; omega
theorem all_pureE (l : List Ev) : (l.map Ev.enc).all (fun r => r.all AV.pure1 && r.length == 25) = true := by
  rw [List.all_map]
  exact List.all_eq_true.2 fun t _ => rfl
theorem v92_eq {n : Bool} {l : List Ev} (hn : n = true → l = []) (hl : l.length ≤ 268435456) : v92 n (l.map Ev.enc) = some (n, l.map Ev.enc) := by
  unfold v92 d92
  cases n with
  | true => rw [hn rfl]; rfl
  | false => rw [Dt.val_no rfl, Dt.val_yes (by simpa using hl), Dt.val_yes (all_pureE l)]; rfl

/-- What waits: whose frame, of which beat; its events. -/
abbrev Wt := List ((Int × Int) × (Bool × List Ev))
def encW (w : Wt) : List (List AV × AV) := w.map fun e => ([I e.1.1, I e.1.2], .sl 25 e.2.1 (e.2.2.map Ev.enc) .no)
def kEq (a b : Int × Int) : Bool := (a.1 == b.1) && ((a.2 == b.2) && true)
def hasW (a : Int × Int) : Wt → Bool
  | [] => false
  | e :: w => kEq a e.1 || hasW a w
def getW (a : Int × Int) : Wt → Bool × List Ev
  | [] => (true, [])
  | e :: w => if kEq a e.1 then e.2 else getW a w
def delW (a : Int × Int) : Wt → Wt
  | [] => []
  | e :: w => if kEq a e.1 then w else e :: delW a w
theorem keys_ok (w : Wt) : (encW w).all (fun p => canonOks [(.i .i64), (.i .i64)] p.1) = true := by
  unfold encW
  rw [List.all_map]
  exact List.all_eq_true.2 fun t _ => rfl
theorem has_eq (a b : Int) : ∀ w : Wt, hasE [.int .i64 a, .int .i64 b] (encW w) = hasW (a, b) w
  | [] => rfl
  | e :: w => by
    show (keyEq [.int .i64 a, .int .i64 b] [I e.1.1, I e.1.2] || hasE [.int .i64 a, .int .i64 b] (encW w)) = (kEq (a, b) e.1 || hasW (a, b) w)
    rw [has_eq a b w]
    rfl
theorem get_eq (a b : Int) : ∀ w : Wt, getE [.int .i64 a, .int .i64 b] (.sl 25 true [] .no) (encW w) = .sl 25 (getW (a, b) w).1 ((getW (a, b) w).2.map Ev.enc) .no
  | [] => rfl
  | e :: w => by
    show (if keyEq [.int .i64 a, .int .i64 b] [I e.1.1, I e.1.2] then AV.sl 25 e.2.1 (e.2.2.map Ev.enc) .no else getE [.int .i64 a, .int .i64 b] (.sl 25 true [] .no) (encW w)) = _
    rw [get_eq a b w]
    have hk : keyEq [.int .i64 a, .int .i64 b] [I e.1.1, I e.1.2] = kEq (a, b) e.1 := rfl
    rw [hk]
    simp only [getW]
    split <;> rfl
theorem del_eq (a b : Int) : ∀ w : Wt, delE [.int .i64 a, .int .i64 b] (encW w) = encW (delW (a, b) w)
  | [] => rfl
  | e :: w => by
    show (if keyEq [.int .i64 a, .int .i64 b] [I e.1.1, I e.1.2] then encW w else ([I e.1.1, I e.1.2], AV.sl 25 e.2.1 (e.2.2.map Ev.enc) .no) :: delE [.int .i64 a, .int .i64 b] (encW w)) = _
    rw [del_eq a b w]
    have hk : keyEq [.int .i64 a, .int .i64 b] [I e.1.1, I e.1.2] = kEq (a, b) e.1 := rfl
    rw [hk]
    simp only [delW]
    split <;> rfl
theorem canE_ok (n : Bool) (r : List (List AV)) : canonOkE (.l 25) (.sl 25 n r .no) = true := by cases n <;> rfl
def sizeW : Wt → Nat
  | [] => 0
  | e :: w => e.2.2.length + sizeW w
theorem size_del (a : Int × Int) : ∀ w : Wt, (getW a w).2.length + sizeW (delW a w) = sizeW w
  | [] => rfl
  | e :: w => by
    have ih := size_del a w
    simp only [getW, delW, sizeW]
    split
    · rfl
    · simp only [sizeW]; omega
theorem len_del (a : Int × Int) : ∀ w : Wt, (delW a w).length ≤ w.length ∧ (hasW a w = true → (delW a w).length < w.length)
  | [] => ⟨Nat.le_refl _, fun h => by cases h⟩
  | e :: w => by
    have ih := len_del a w
    simp only [delW, hasW, List.length_cons]
    split
    · exact ⟨Nat.le_succ _, fun _ => Nat.lt_succ_self _⟩
    · rename_i h
      refine ⟨by simp only [List.length_cons]; omega, fun h' => ?_⟩
      simp only [Bool.not_eq_true] at h
      rw [h, Bool.false_or] at h'
      have := ih.2 h'
      simp only [List.length_cons]
      omega

/-- What of a view changes. -/
structure Vs where
  w : Wt
  tn : Bool
  th : List Th
  ln : Bool
  log : List Ev
def foldsV (s : Vs) (es : List Ev) : Vs :=
  bif (foldS s.th es).2 then { s with tn := bif es.isEmpty then s.tn else false, th := (foldS s.th es).1, ln := bif s.ln then es.isEmpty else false, log := s.log ++ es } else s
structure VsOk (s : Vs) : Prop where
  tn : s.tn = true → s.th = []
  ln : s.ln = true → s.log = []
  r : Rising s.th
  t : s.th.length + sizeW s.w ≤ 200000
  l : s.log.length + sizeW s.w ≤ 200000

theorem v93_eq (m : Bool) (es : List Ev) (s : Vs) (hs : VsOk s) (he : es.length ≤ 200000) (c0 c1 c2 c3 c4 : Int) :
    v93 m (es.map Ev.enc) (encW s.w) c0 c1 c2 c3 c4 s.tn (s.th.map Th.enc) s.ln (s.log.map Ev.enc) =
      some ((foldsV s es).tn, (foldsV s es).th.map Th.enc, (foldsV s es).ln, (foldsV s es).log.map Ev.enc) := by
  have h1 := hs.t
  have h2 := hs.l
  unfold v93 d93
  rw [Dt.val_yes (by simp), v26_all hs.tn hs.r (by omega), Dt.val_some]
  unfold foldsV
  cases hb : (foldS s.th es).2 with
  | false => rfl
  | true =>
    refine (Dt.val_no rfl).trans ?_
    rw [Dt.val_yes (by simp), Dt.val_yes (by simp only [List.length_map, decide_eq_true_eq]; omega), Dt.val_yes (all_pureE es)]
    cases hn : s.ln with
    | true =>
      rw [hs.ln hn]
      refine (Dt.val_yes rfl).trans ?_
      show some _ = some _
      simp
    | false =>
      refine (Dt.val_no rfl).trans ?_
      show some _ = some _
      simp

def oneV (next : Int) (s : Vs) (i : Nat) : Vs := { foldsV s (getW ((i : Int), next) s.w).2 with w := delW ((i : Int), next) s.w }
theorem foldsV_w (s : Vs) (es : List Ev) : (foldsV s es).w = s.w := by
  unfold foldsV
  cases (foldS s.th es).2 <;> rfl
theorem oneV_ok (next : Int) {s : Vs} (i : Nat) (hs : VsOk s) : VsOk (oneV next s i) := by
  have h1 := hs.t
  have h2 := hs.l
  have hd := size_del ((i : Int), next) s.w
  unfold oneV foldsV
  cases hb : (foldS s.th (getW ((i : Int), next) s.w).2).2 with
  | false => exact ⟨hs.tn, hs.ln, hs.r, by show s.th.length + sizeW (delW ((i : Int), next) s.w) ≤ _; omega, by show s.log.length + sizeW (delW ((i : Int), next) s.w) ≤ _; omega⟩
  | true =>
    obtain ⟨q1, q2⟩ := foldS_rising (getW ((i : Int), next) s.w).2 hs.r
    refine ⟨fun h => ?_, fun h => ?_, q1, ?_, ?_⟩
    · simp only [cond_true] at h ⊢
      cases he : (getW ((i : Int), next) s.w).2 with
      | nil => rw [he] at h; exact hs.tn h
      | cons a l => rw [he] at h; cases h
    · simp only [cond_true] at h ⊢
      cases hln : s.ln with
      | false => rw [hln] at h; cases h
      | true =>
        rw [hln, cond_true] at h
        rw [hs.ln hln, List.isEmpty_iff.1 h]
        rfl
    · show (foldS s.th (getW ((i : Int), next) s.w).2).1.length + sizeW (delW ((i : Int), next) s.w) ≤ _
      omega
    · show (s.log ++ (getW ((i : Int), next) s.w).2).length + sizeW (delW ((i : Int), next) s.w) ≤ _
      rw [List.length_append]
      omega
theorem foldX_inl {α σ X : Type} (f : σ → α → σ) (fin : σ → X) : ∀ (l : List α) (s : σ), foldX (fun s a => .inl (f s a)) fin l s = fin (l.foldl f s)
  | [], s => rfl
  | a :: l, s => by simp only [foldX, List.foldl_cons]; exact foldX_inl f fin l (f s a)

theorem w33_7_eq (next : Int) (N : Nat) (hN : N ≤ 1000) (w : Wt) (c0 c1 c2 c3 c4 : Int) (a : Bool) (ra : List (List AV)) (b : Bool) (rb : List (List AV)) :
    w33_7 next (N : Int) 0 (encW w) c0 c1 c2 c3 c4 a ra b rb = some (bif allFrom (fun _ (i : Nat) => !hasW ((i : Int), next) w) (List.range N) 0 then 1 else 0) := by
  refine scan (step := fun p : P33_7 => d33_7 next (N : Int) (encW w) c0 c1 c2 c3 c4 a ra b rb p) (List.range N) (fun _ (i : Nat) => !hasW ((i : Int), next) w) (fun k h => ?_) ?_
  · have hk : k < N := by simpa using h
    show (d33_7 next (N : Int) (encW w) c0 c1 c2 c3 c4 a ra b rb (k : Int)).val = _
    unfold d33_7
    rw [Dt.val_yes (by simpa using hk), Dt.val_yes (keys_ok w), get_eq, Dt.val_yes (canE_ok _ _), has_eq, Dt.val_br, next_ok hk (by omega)]
    have hg : (List.range N)[k] = k := by simp
    rw [hg]
    cases hasW ((k : Int), next) w <;> rfl
  · show (d33_7 next (N : Int) (encW w) c0 c1 c2 c3 c4 a ra b rb ((List.range N).length : Int)).val = _
    unfold d33_7
    rw [Dt.val_no (by simp)]
    rfl

theorem w33_13_eq (next : Int) (N : Nat) (hN : N ≤ 1000) (s : Vs) (hs : VsOk s) (c0 c1 c2 c3 c4 : Int) :
    w33_13 next (N : Int) 0 (encW s.w) c0 c1 c2 c3 c4 s.tn (s.th.map Th.enc) s.ln (s.log.map Ev.enc) =
      some (encW ((List.range N).foldl (oneV next) s).w, ((List.range N).foldl (oneV next) s).tn, ((List.range N).foldl (oneV next) s).th.map Th.enc, ((List.range N).foldl (oneV next) s).ln, ((List.range N).foldl (oneV next) s).log.map Ev.enc) := by
  have h0 := foldX_inl (oneV next) (fun s : Vs => ((encW s.w, s.tn, s.th.map Th.enc, s.ln, s.log.map Ev.enc) : Y33_13)) (List.range N) s
  rw [← h0]
  refine loop_fold (step := fun p : P33_13 => d33_13 next (N : Int) c0 c1 c2 c3 c4 p.1 p.2.1 p.2.2.1 p.2.2.2.1 p.2.2.2.2.1 p.2.2.2.2.2) (List.range N) (fun k (s : Vs) => ((k : Int), encW s.w, s.tn, s.th.map Th.enc, s.ln, s.log.map Ev.enc)) _ _ (fun _ s => VsOk s) (fun k s h hi => ?_) (fun s hi => ?_) s hs
  · have hk : k < N := by simpa using h
    have hg : (List.range N)[k] = k := by simp
    refine ⟨?_, fun s' hs' => ?_⟩
    · show (d33_13 next (N : Int) c0 c1 c2 c3 c4 (k : Int) (encW s.w) s.tn (s.th.map Th.enc) s.ln (s.log.map Ev.enc)).val = _
      unfold d33_13
      have hd := size_del ((k : Int), next) s.w
      have h1 := hi.t
      rw [Dt.val_yes (by simpa using hk), Dt.val_yes (keys_ok s.w), get_eq, Dt.val_yes (canE_ok _ _)]
      have hv : v93 (AV.sl 25 (getW ((k : Int), next) s.w).1 ((getW ((k : Int), next) s.w).2.map Ev.enc) .no).slNil (AV.sl 25 (getW ((k : Int), next) s.w).1 ((getW ((k : Int), next) s.w).2.map Ev.enc) .no).slRows (encW s.w) c0 c1 c2 c3 c4 s.tn (s.th.map Th.enc) s.ln (s.log.map Ev.enc) = _ := v93_eq (getW ((k : Int), next) s.w).1 (getW ((k : Int), next) s.w).2 s hi (by omega) c0 c1 c2 c3 c4
      rw [hv, Dt.val_some, Dt.val_yes (by rw [keys_ok]; rfl), del_eq, next_ok hk (by omega), hg]
      rfl
    · rw [hg] at hs'
      cases hs'
      exact oneV_ok next k hi
  · show (d33_13 next (N : Int) c0 c1 c2 c3 c4 ((List.range N).length : Int) (encW s.w) s.tn (s.th.map Th.enc) s.ln (s.log.map Ev.enc)).val = _
    unfold d33_13
    rw [Dt.val_no (by simp)]
    rfl

/-- The beat behind one. -/
def nextB (start beat : Int) : Int := if start > wrapF .i64 (beat + 1) then start else wrapF .i64 (beat + 1)
def allB (N : Nat) (next : Int) (w : Wt) : Bool := allFrom (fun _ (i : Nat) => !hasW ((i : Int), next) w) (List.range N) 0
/-- Beats that are there whole are done. -/
def roundsV (start : Int) (N : Nat) : Nat → Int → Vs → Int × Vs
  | 0, b, s => (b, s)
  | f + 1, b, s => bif allB N (nextB start b) s.w then roundsV start N f (nextB start b) ((List.range N).foldl (oneV (nextB start b)) s) else (b, s)

theorem foldl_ok (next : Int) : ∀ (l : List Nat) {s : Vs}, VsOk s → VsOk (l.foldl (oneV next) s) ∧ (l.foldl (oneV next) s).w.length ≤ s.w.length
  | [], s, hs => ⟨hs, Nat.le_refl _⟩
  | i :: l, s, hs => by
    obtain ⟨h1, h2⟩ := foldl_ok next l (oneV_ok next i hs)
    refine ⟨h1, Nat.le_trans h2 ?_⟩
    exact (len_del ((i : Int), next) s.w).1
theorem foldl_less (next : Int) {N : Nat} (hN : 0 < N) {s : Vs} (hs : VsOk s) (h : allB N next s.w = true) : ((List.range N).foldl (oneV next) s).w.length < s.w.length := by
  obtain ⟨M, rfl⟩ : ∃ M, N = M + 1 := ⟨N - 1, by omega⟩
  unfold allB at h
  rw [allFrom_iff] at h
  have h0 := h 0 (by simp)
  simp only [List.getElem_range, Bool.not_eq_false'] at h0
  rw [List.range_succ_eq_map, List.foldl_cons]
  exact Nat.lt_of_le_of_lt (foldl_ok next _ (oneV_ok next 0 hs)).2 ((len_del ((0 : Nat), next) s.w).2 h0)

theorem w33_5_eq (start : Int) (N : Nat) (hN0 : 0 < N) (hN : N ≤ 1000) (c0 c1 : Int) : ∀ (f : Nat) (b : Int) (s : Vs), VsOk s → s.w.length < f →
    loopV (fun p : P33_5 => d33_5 c0 c1 (N : Int) start p.1 p.2.1 p.2.2.1 p.2.2.2.1 p.2.2.2.2.1 p.2.2.2.2.2) (encW s.w, b, s.tn, s.th.map Th.enc, s.ln, s.log.map Ev.enc) =
      some (encW (roundsV start N f b s).2.w, (roundsV start N f b s).1, (roundsV start N f b s).2.tn, (roundsV start N f b s).2.th.map Th.enc, (roundsV start N f b s).2.ln, (roundsV start N f b s).2.log.map Ev.enc) := by
  intro f
  induction f with
  | zero => intro b s _ h; omega
  | succ f ih =>
    intro b s hs hf
    have h7 := w33_7_eq (nextB start b) N hN s.w c0 c1 (N : Int) b start s.tn (s.th.map Th.enc) s.ln (s.log.map Ev.enc)
    have h13 := w33_13_eq (nextB start b) N hN s hs c0 c1 (N : Int) b start
    have hstep : (d33_5 c0 c1 (N : Int) start (encW s.w) b s.tn (s.th.map Th.enc) s.ln (s.log.map Ev.enc)).val =
        bif allB N (nextB start b) s.w then some (.inl (encW ((List.range N).foldl (oneV (nextB start b)) s).w, nextB start b, ((List.range N).foldl (oneV (nextB start b)) s).tn, ((List.range N).foldl (oneV (nextB start b)) s).th.map Th.enc, ((List.range N).foldl (oneV (nextB start b)) s).ln, ((List.range N).foldl (oneV (nextB start b)) s).log.map Ev.enc))
        else some (.inr (encW s.w, b, s.tn, s.th.map Th.enc, s.ln, s.log.map Ev.enc)) := by
      have hnb : (if start > wrapF .i64 (b + 1) then start else wrapF .i64 (b + 1)) = nextB start b := rfl
      unfold d33_5
      rw [hnb, Dt.val_ob, h7, Dt.val_some]
      have hal : allFrom (fun _ (i : Nat) => !hasW ((i : Int), nextB start b) s.w) (List.range N) 0 = allB N (nextB start b) s.w := rfl
      rw [hal]
      cases hall : allB N (nextB start b) s.w with
      | false => rfl
      | true =>
        refine (Dt.val_no rfl).trans ?_
        rw [Dt.val_ob, h13, Dt.val_some, Dt.val_ret]
        rfl
    cases hall : allB N (nextB start b) s.w with
    | false =>
      rw [hall, cond_false] at hstep
      refine (loopV_inr (step := fun p : P33_5 => d33_5 c0 c1 (N : Int) start p.1 p.2.1 p.2.2.1 p.2.2.2.1 p.2.2.2.2.1 p.2.2.2.2.2) (p := (encW s.w, b, s.tn, s.th.map Th.enc, s.ln, s.log.map Ev.enc)) hstep).trans ?_
      simp only [roundsV, hall, cond_false]
    | true =>
      rw [hall, cond_true] at hstep
      refine (loopV_inl (step := fun p : P33_5 => d33_5 c0 c1 (N : Int) start p.1 p.2.1 p.2.2.1 p.2.2.2.1 p.2.2.2.2.1 p.2.2.2.2.2) (p := (encW s.w, b, s.tn, s.th.map Th.enc, s.ln, s.log.map Ev.enc)) hstep).trans ?_
      simp only [roundsV, hall, cond_true]
      exact ih _ _ (foldl_ok _ _ hs).1 (by have := foldl_less (nextB start b) hN0 hs hall; omega)

theorem w33_5_eq' (start : Int) (N : Nat) (hN0 : 0 < N) (hN : N ≤ 1000) (c0 c1 : Int) (f : Nat) (b : Int) (s : Vs) (hs : VsOk s) (h : s.w.length < f) :
    w33_5 (encW s.w) c0 c1 (N : Int) b start s.tn (s.th.map Th.enc) s.ln (s.log.map Ev.enc) =
      some (encW (roundsV start N f b s).2.w, (roundsV start N f b s).1, (roundsV start N f b s).2.tn, (roundsV start N f b s).2.th.map Th.enc, (roundsV start N f b s).2.ln, (roundsV start N f b s).2.log.map Ev.enc) :=
  w33_5_eq start N hN0 hN c0 c1 f b s hs h

/-- Whether a frame may be taken. -/
def mayV (cl se : Int) (N : Nat) (beat start : Int) (w : Wt) (fr c s st bt : Int) (es : List Ev) : Bool :=
  bif !(c == cl) then false else bif !(s == se) then false else bif decide (fr < 0) then false else bif decide ((N : Int) ≤ fr) then false else
  bif decide (st < 0) then false else bif decide (bt < st) then false else bif (bif !(start == (-1)) then !(st == start) else false) then false else
  bif decide (bt ≤ beat) then false else bif decide (36 < (wrapF .i64 (bt - (if beat > st then beat else st)))) then false else
  bif hasW (fr, bt) w then false else !(es.any fun e => !e.ok)
theorem v91_eq (cl se : Int) (N : Nat) (beat start : Int) (w : Wt) (fr c s st bt : Int) (n : Bool) (es : List Ev) (he : es.length ≤ 200000) (a : Bool) (ra : List (List AV)) (b : Bool) (rb : List (List AV)) :
    v91 fr c s st bt n (es.map Ev.enc) (encW w) cl se (N : Int) beat start a ra b rb = some (mayV cl se N beat start w fr c s st bt es) := by
  simp only [v91, d91, Dt.val_br, Dt.val_ret, get_eq, canE_ok, has_eq, keys_ok, v99_eq n es (by omega), Dt.val_some, Bool.or_true, Bool.and_true, cond_true, mayV]
  generalize (c == cl) = b1
  generalize (s == se) = b2
  generalize decide (fr < 0) = b3
  generalize decide ((N : Int) ≤ fr) = b4
  generalize decide (st < 0) = b5
  generalize decide (bt < st) = b6
  generalize (start == (-1)) = b7
  generalize (st == start) = b8
  generalize decide (bt ≤ beat) = b9
  generalize decide (36 < (wrapF .i64 (bt - (if beat > st then beat else st)))) = b10
  generalize hasW (fr, bt) w = b11
  cases b1 <;> try rfl
  cases b2 <;> try rfl
  cases b3 <;> try rfl
  cases b4 <;> try rfl
  cases b5 <;> try rfl
  cases b6 <;> try rfl
  cases b7 <;> cases b8 <;> cases b9 <;> cases b10 <;> cases b11 <;> rfl

/-- A frame taken. -/
def takeV (cl se : Int) (N : Nat) (beat start : Int) (v : Vs) (fr c s st bt : Int) (n : Bool) (es : List Ev) : Bool × Int × Int × Vs :=
  bif mayV cl se N beat start v.w fr c s st bt es then
    (true, (roundsV st N (v.w.length + 2) beat { v with w := v.w ++ [((fr, bt), (n, es))] }).1, st, (roundsV st N (v.w.length + 2) beat { v with w := v.w ++ [((fr, bt), (n, es))] }).2)
  else (false, beat, start, v)
theorem sizeW_snoc (w : Wt) (k : Int × Int) (n : Bool) (es : List Ev) : sizeW (w ++ [(k, (n, es))]) = sizeW w + es.length := by
  induction w with
  | nil => simp [sizeW]
  | cons e w ih => simp only [List.cons_append, sizeW, ih]; omega
theorem v33_eq (cl se : Int) (N : Nat) (hN0 : 0 < N) (hN : N ≤ 1000) (beat start : Int) (v : Vs) (hv : VsOk v) (fr c s st bt : Int) (n : Bool) (es : List Ev) (hn : n = true → es = []) (hb1 : v.th.length + sizeW v.w + es.length ≤ 200000) (hb2 : v.log.length + sizeW v.w + es.length ≤ 200000) :
    v33 fr c s st bt n (es.map Ev.enc) (encW v.w) cl se (N : Int) beat start v.tn (v.th.map Th.enc) v.ln (v.log.map Ev.enc) =
      some ((takeV cl se N beat start v fr c s st bt n es).1, encW (takeV cl se N beat start v fr c s st bt n es).2.2.2.w, (takeV cl se N beat start v fr c s st bt n es).2.1, (takeV cl se N beat start v fr c s st bt n es).2.2.1,
        (takeV cl se N beat start v fr c s st bt n es).2.2.2.tn, (takeV cl se N beat start v fr c s st bt n es).2.2.2.th.map Th.enc, (takeV cl se N beat start v fr c s st bt n es).2.2.2.ln, (takeV cl se N beat start v fr c s st bt n es).2.2.2.log.map Ev.enc) := by
  unfold v33 d33
  rw [Dt.val_yes (by simp), v91_eq cl se N beat start v.w fr c s st bt n es (by omega), Dt.val_some]
  unfold takeV
  cases hm : mayV cl se N beat start v.w fr c s st bt es with
  | false => rfl
  | true =>
    have hhas : hasW (fr, bt) v.w = false := by
      cases h : hasW (fr, bt) v.w with
      | false => rfl
      | true =>
        exfalso
        unfold mayV at hm
        rw [h] at hm
        revert hm
        cases (c == cl) <;> cases (s == se) <;> cases decide (fr < 0) <;> cases decide ((N : Int) ≤ fr) <;> cases decide (st < 0) <;> cases decide (bt < st) <;> cases (start == (-1)) <;> cases (st == start) <;> cases decide (bt ≤ beat) <;> cases decide (36 < (wrapF .i64 (bt - (if beat > st then beat else st)))) <;> simp
    refine (Dt.val_no rfl).trans ?_
    rw [Dt.val_yes (by simp), v92_eq hn (by omega), Dt.val_some, Dt.val_yes (by rw [keys_ok]; simp), Dt.val_ob]
    have hmap : (if hasE [.int .i64 fr, .int .i64 bt] (encW v.w) then setE [.int .i64 fr, .int .i64 bt] (.sl 25 n (es.map Ev.enc) .no) (encW v.w) else (encW v.w ++ [([.int .i64 fr, .int .i64 bt], (.sl 25 n (es.map Ev.enc) .no))])) = encW (v.w ++ [((fr, bt), (n, es))]) := by
      rw [has_eq, hhas]
      simp [encW]
    have hok : VsOk { v with w := v.w ++ [((fr, bt), (n, es))] } := ⟨hv.tn, hv.ln, hv.r, by show v.th.length + sizeW (v.w ++ [((fr, bt), (n, es))]) ≤ _; rw [sizeW_snoc]; omega, by show v.log.length + sizeW (v.w ++ [((fr, bt), (n, es))]) ≤ _; rw [sizeW_snoc]; omega⟩
    have hw := w33_5_eq' st N hN0 hN cl se (v.w.length + 2) beat { v with w := v.w ++ [((fr, bt), (n, es))] } hok (by simp)
    dsimp only at hw ⊢
    rw [hmap, hw, Dt.val_some]
    rfl
end Go.Ab
