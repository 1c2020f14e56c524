/- Searching, inserting, deleting: what they come to. -/
import Derived.Test.YtmekbgeknkknfaaQ2
set_option linter.unusedVariables false
set_option linter.unusedSimpArgs false
namespace Go.Ab

def cmpI (a b : Int) : Int := bif decide (a < b) then -1 else bif decide (b < a) then 1 else 0
theorem v168_eq (a : Int) : v168 a = some false := by simp [v168, d168]
theorem v111_eq (a b : Int) : v111 a b = some (cmpI a b) := by
  simp only [v111, d111, v168_eq, Dt.val_some, Dt.val_br, Dt.val_ret, cond_false, cmpI]
  cases decide (a < b) <;> cases decide (b < a) <;> rfl
theorem v110_eq (t : Th) (x : Int) : v110 t.id t.x t.y t.a.n t.a.s t.b.n t.b.s t.c.n t.c.s t.d.n t.d.s x = some (cmpI t.id x) := by
  simp only [v110, d110, v111_eq, Dt.val_some, Dt.val_ret]

theorem mid_eq (i j : Nat) (h : i + j ≤ 1000000000) : wrapF .i64 ((wrapF .u64 (wrapF .i64 ((i : Int) + (j : Int)))).fdiv 2) = (((i + j) / 2 : Nat) : Int) := by
  rw [wrap_i64 (n := (i : Int) + (j : Int)) (by omega) (by omega), wrap_u64 (n := (i : Int) + (j : Int)) (by omega) (by omega), Int.fdiv_eq_ediv_of_nonneg _ (by decide), wrap_i64 (by omega) (by omega)]
  omega

theorem bs_loop (n : Bool) (pre post : List Th) (x : Int) (hl : (pre ++ post).length ≤ 268435456) (h1 : ∀ t ∈ pre, t.id < x) (h2 : ∀ t ∈ post, x ≤ t.id) :
    ∀ (m i j : Nat), j - i ≤ m → i ≤ pre.length → pre.length ≤ j → j ≤ (pre ++ post).length →
      loopV (fun p : P109_3 => d109_3 n ((pre ++ post).map Th.enc) x (((pre ++ post).map Th.enc).length : Int) p.1 p.2) ((i : Int), (j : Int)) = some (pre.length : Int) := by
  intro m
  induction m with
  | zero =>
    intro i j hm hi hj hjl
    have : i = j := by omega
    subst this
    have : i = pre.length := by omega
    subst this
    refine loopV_inr ?_
    show (d109_3 _ _ _ _ (pre.length : Int) (pre.length : Int)).val = _
    unfold d109_3
    rw [Dt.val_no (by simp)]
    rfl
  | succ m ih =>
    intro i j hm hi hj hjl
    by_cases hij : i = j
    · subst hij
      have : i = pre.length := by omega
      subst this
      refine loopV_inr ?_
      show (d109_3 _ _ _ _ (pre.length : Int) (pre.length : Int)).val = _
      unfold d109_3
      rw [Dt.val_no (by simp)]
      rfl
    · have hlt : i < j := by omega
      have hk : (i + j) / 2 < (pre ++ post).length := by omega
      have hk' : (i + j) / 2 < ((pre ++ post).map Th.enc).length := by simpa using hk
      have hval : (d109_3 n ((pre ++ post).map Th.enc) x (((pre ++ post).map Th.enc).length : Int) (i : Int) (j : Int)).val =
          bif decide (cmpI (pre ++ post)[(i + j) / 2].id x < 0) then some (.inl ((((i + j) / 2 + 1 : Nat) : Int), (j : Int))) else some (.inl ((i : Int), (((i + j) / 2 : Nat) : Int))) := by
        unfold d109_3
        rw [Dt.val_yes (by simpa using hlt), mid_eq i j (by omega), Dt.val_yes (idx_ok hk'), show ((((i + j) / 2 : Nat) : Int).toNat) = (i + j) / 2 from rfl, getD_map _ _ _ hk, Dt.val_yes (epOk_th _)]
        have hv := v110_eq (pre ++ post)[(i + j) / 2] x
        have hv' : v110 (nth ((pre ++ post)[(i + j) / 2].enc) 0).intOf (nth ((pre ++ post)[(i + j) / 2].enc) 1).intOf (nth ((pre ++ post)[(i + j) / 2].enc) 2).intOf (nth ((pre ++ post)[(i + j) / 2].enc) 3).intOf (nth ((pre ++ post)[(i + j) / 2].enc) 4).strOf (nth ((pre ++ post)[(i + j) / 2].enc) 5).intOf (nth ((pre ++ post)[(i + j) / 2].enc) 6).strOf (nth ((pre ++ post)[(i + j) / 2].enc) 7).intOf (nth ((pre ++ post)[(i + j) / 2].enc) 8).strOf (nth ((pre ++ post)[(i + j) / 2].enc) 9).intOf (nth ((pre ++ post)[(i + j) / 2].enc) 10).strOf x = some (cmpI (pre ++ post)[(i + j) / 2].id x) := hv
        rw [hv', Dt.val_some, Dt.val_br, Dt.val_ret, Dt.val_ret, wrap_i64 (n := (((i + j) / 2 : Nat) : Int) + 1) (by omega) (by omega)]
        rfl
      by_cases hp : (i + j) / 2 < pre.length
      · have hx : (pre ++ post)[(i + j) / 2].id < x := by
          rw [List.getElem_append_left hp]
          exact h1 _ (List.getElem_mem hp)
        have hc : decide (cmpI (pre ++ post)[(i + j) / 2].id x < 0) = true := by
          unfold cmpI
          rw [decide_eq_true hx]
          rfl
        rw [hc, cond_true] at hval
        rw [loopV_inl hval]
        exact ih _ _ (by omega) (by omega) hj hjl
      · have hx : x ≤ (pre ++ post)[(i + j) / 2].id := by
          rw [List.getElem_append_right (by omega)]
          exact h2 _ (List.getElem_mem _)
        have hc : decide (cmpI (pre ++ post)[(i + j) / 2].id x < 0) = false := by
          unfold cmpI
          rw [decide_eq_false (by omega : ¬ (pre ++ post)[(i + j) / 2].id < x), cond_false]
          cases decide (x < (pre ++ post)[(i + j) / 2].id) <;> decide
        rw [hc, cond_false] at hval
        rw [loopV_inl hval]
        exact ih _ _ (by omega) hi (by omega) (by omega)

def headIs (x : Int) : List Th → Bool
  | [] => false
  | t :: _ => t.id == x
theorem v109_eq (n : Bool) (pre post : List Th) (x : Int) (hl : (pre ++ post).length ≤ 268435456) (h1 : ∀ t ∈ pre, t.id < x) (h2 : ∀ t ∈ post, x ≤ t.id) :
    v109 n ((pre ++ post).map Th.enc) x = some ((pre.length : Int), headIs x post) := by
  have hw : w109_3 n ((pre ++ post).map Th.enc) x (((pre ++ post).map Th.enc).length : Int) 0 (((pre ++ post).map Th.enc).length : Int) = some (pre.length : Int) := by
    have := bs_loop n pre post x hl h1 h2 (pre ++ post).length 0 (pre ++ post).length (by omega) (by omega) (by simp) (Nat.le_refl _)
    unfold w109_3
    rw [show (((pre ++ post).map Th.enc).length : Int) = ((pre ++ post).length : Int) by simp]
    rw [show (((pre ++ post).map Th.enc).length : Int) = ((pre ++ post).length : Int) by simp] at this
    exact this
  unfold v109 d109
  rw [Dt.val_ob, hw, Dt.val_some]
  cases post with
  | nil =>
    rw [Dt.val_no (by simp)]
    rfl
  | cons t post =>
    have hk : pre.length < (pre ++ t :: post).length := by simp
    have hk' : pre.length < ((pre ++ t :: post).map Th.enc).length := by simp
    have hkk : decide ((pre.length : Int) < (((pre ++ t :: post).map Th.enc).length : Int)) = true := by
      simp only [List.length_map, decide_eq_true_eq]
      omega
    rw [Dt.val_yes hkk, Dt.val_yes (idx_ok hk'), show ((pre.length : Int).toNat) = pre.length from rfl, getD_map _ _ _ hk, Dt.val_yes (epOk_th _)]
    have hg : (pre ++ t :: post)[pre.length] = t := by simp
    rw [hg]
    have hv' : v110 (nth t.enc 0).intOf (nth t.enc 1).intOf (nth t.enc 2).intOf (nth t.enc 3).intOf (nth t.enc 4).strOf (nth t.enc 5).intOf (nth t.enc 6).strOf (nth t.enc 7).intOf (nth t.enc 8).strOf (nth t.enc 9).intOf (nth t.enc 10).strOf x = some (cmpI t.id x) := v110_eq t x
    rw [hv', Dt.val_some, Dt.val_ret]
    have hge := h2 t (by simp)
    have : (cmpI t.id x == 0) = (t.id == x) := by
      unfold cmpI
      rw [decide_eq_false (by omega : ¬ t.id < x), cond_false]
      by_cases he : x < t.id
      · rw [decide_eq_true he]
        have : ¬ t.id = x := by omega
        simp [this]
      · rw [decide_eq_false he]
        have : t.id = x := by omega
        simp [this]
    rw [this]
    rfl

/-- The cells of things, one behind the other. -/
def flat (l : List Th) : List AV := l.flatMap Th.enc
theorem flat_strip (l : List Th) : (l.map Th.enc).flatten.map AV.strip = flat l := by
  unfold flat
  rw [List.flatMap_def]
  induction l with
  | nil => rfl
  | cons t l ih =>
    simp only [List.map_cons, List.flatten_cons, List.map_append, ih]
    rfl
theorem flat_append (l m : List Th) : flat (l ++ m) = flat l ++ flat m := by simp [flat]
theorem flat_cons (t : Th) (l : List Th) : flat (t :: l) = t.enc ++ flat l := rfl
theorem flat_length (l : List Th) : (flat l).length = l.length * 11 := by
  induction l with
  | nil => rfl
  | cons t l ih =>
    rw [flat_cons, List.length_append, ih, List.length_cons]
    show 11 + _ = _
    omega
theorem flat_pure (l : List Th) : (flat l).all AV.pure1 = true := by
  induction l with
  | nil => rfl
  | cons t l ih => rw [flat_cons, List.all_append, ih]; rfl
theorem flat_noSl (l : List Th) : (flat l).all noSl = true := by
  induction l with
  | nil => rfl
  | cons t l ih => rw [flat_cons, List.all_append, ih]; rfl
theorem flat_take (pre post : List Th) : (flat (pre ++ post)).take (pre.length * 11) = flat pre := by
  rw [flat_append, ← flat_length, List.take_left]
theorem flat_drop (pre post : List Th) : (flat (pre ++ post)).drop (pre.length * 11) = flat post := by
  rw [flat_append, ← flat_length, List.drop_left]
theorem flat_chunk (l : List Th) : chunk 11 l.length (flat l) = l.map Th.enc := by
  induction l with
  | nil => rfl
  | cons t l ih =>
    show (flat (t :: l)).take 11 :: chunk 11 l.length ((flat (t :: l)).drop 11) = _
    have h1 := flat_take [t] l
    have h2 := flat_drop [t] l
    simp only [List.length_singleton, Nat.one_mul, List.singleton_append] at h1 h2
    rw [h1, h2, ih]
    rfl
theorem nth_drop (l : List AV) (o j : Nat) : nth (l.drop o) j = nth l (o + j) := by
  rw [nth_eq_getD, nth_eq_getD]
  simp [List.getD, List.getElem?_drop]
theorem epOks_drop (ks : List CK) (row : List AV) (o : Nat) : ∀ j, epOks ks row (o + j) = epOks ks (row.drop o) j := by
  induction ks with
  | nil => intro j; rfl
  | cons k ks ih =>
    intro j
    show (canonOkE k (nth row (o + j)) && epOks ks row (o + j + 1)) = (canonOkE k (nth (row.drop o) j) && epOks ks (row.drop o) (j + 1))
    rw [nth_drop, Nat.add_assoc, ih (j + 1)]
theorem epOk_flat (pre post : List Th) (t : Th) : epOk [(.i .i64), (.i .i64), (.i .i64), (.i .i64), .s, (.i .i64), .s, (.i .i64), .s, (.i .i64), .s] (flat (pre ++ t :: post)) (0 + pre.length * 11) = true := by
  unfold epOk
  have h := epOks_drop [(.i .i64), (.i .i64), (.i .i64), (.i .i64), .s, (.i .i64), .s, (.i .i64), .s, (.i .i64), .s] (flat (pre ++ t :: post)) (0 + pre.length * 11) 0
  rw [Nat.add_zero] at h
  rw [h, Nat.zero_add, flat_drop, flat_length]
  have h2 : epOks [(.i .i64), (.i .i64), (.i .i64), (.i .i64), .s, (.i .i64), .s, (.i .i64), .s, (.i .i64), .s] (flat (t :: post)) 0 = true := rfl
  rw [h2]
  simp
  omega
theorem nth_flat (pre post : List Th) (t : Th) (j : Nat) : nth (flat (pre ++ t :: post)) (0 + pre.length * 11 + j) = nth (t.enc ++ flat post) j := by
  rw [← nth_drop, Nat.zero_add, flat_drop, flat_cons]

theorem toNat_cast (k : Nat) : ((k : Int).toNat) = k := rfl
theorem rows_all (l : List Th) : ((l.map Th.enc).all fun r => r.all noSl) = true := all_noSl l

/-- An event that enters a thing which isn't there. -/
theorem v68_enter {n : Bool} {pre post : List Th} {t : Th} (hn : n = true → pre ++ post = []) (hl : (pre ++ post).length ≤ 268435455) (h1 : ∀ s ∈ pre, s.id < t.id) (h2 : ∀ s ∈ post, t.id < s.id) (ht : t.ok = true) :
    v68 n ((pre ++ post).map Th.enc) 1 t.id t.id t.x t.y t.a.n t.a.s t.b.n t.b.s t.c.n t.c.s t.d.n t.d.s 0 0 0 0 0 [] 0 [] 0 [] 0 [] = some (false, (pre ++ t :: post).map Th.enc, true) := by
  have hv := v109_eq n pre post t.id (by omega) h1 (fun s hs => by have := h2 s hs; omega)
  have hh : headIs t.id post = false := by
    cases post with
    | nil => rfl
    | cons s post =>
      have := h2 s (by simp)
      show (s.id == t.id) = false
      simp; omega
  rw [hh] at hv
  have he : v25 1 t.id t.id t.x t.y t.a.n t.a.s t.b.n t.b.s t.c.n t.c.s t.d.n t.d.s 0 0 0 0 0 [] 0 [] 0 [] 0 [] = some true := by
    have := v25_eq (evEnter t)
    rw [ok_enter ht] at this
    exact this
  unfold v68 d68
  rw [hv, Dt.val_some, he, Dt.val_some]
  refine (Dt.val_no rfl).trans ?_
  refine (Dt.val_no rfl).trans ?_
  rw [v88_eq hn (by omega), Dt.val_some, Dt.val_yes (rows_all _)]
  cases n with
  | true =>
    have h0 := hn rfl
    have hpre : pre = [] := by cases pre with | nil => rfl | cons _ _ => cases h0
    subst hpre
    have hpost : post = [] := by simpa using h0
    subst hpost
    rfl
  | false =>
    simp only [flat_strip, toNat_cast]
    refine (Dt.val_no rfl).trans ?_
    refine (Dt.val_yes rfl).trans ?_
    have e1 : (flat (pre ++ post)).take (pre.length * 11) ++ ([(.int .i64 t.id), (.int .i64 t.x), (.int .i64 t.y), (.int .i64 t.a.n), (.str t.a.s), (.int .i64 t.b.n), (.str t.b.s), (.int .i64 t.c.n), (.str t.c.s), (.int .i64 t.d.n), (.str t.d.s)] : List AV) ++ (flat (pre ++ post)).drop (pre.length * 11) = flat (pre ++ t :: post) := by
      rw [flat_take, flat_drop, flat_append, flat_cons, List.append_assoc]
      rfl
    rw [e1]
    have hlen : ((pre ++ post).map Th.enc).length = (pre ++ post).length := by simp
    have hlen2 : (pre ++ post).length + 1 = (pre ++ t :: post).length := by simp; omega
    rw [Dt.val_yes (by rw [hlen, flat_length, flat_noSl]; simp), Dt.val_yes (by rw [hlen]; simp at hl ⊢; omega), Dt.val_yes (by rw [hlen, hlen2, flat_length, flat_pure]; simp), Dt.val_ret, hlen, hlen2, flat_chunk]

/-- An event that a thing leaves which is there. -/
theorem v68_leave {n : Bool} {pre post : List Th} {x : Th} (hn : n = true → pre ++ x :: post = []) (hl : (pre ++ x :: post).length ≤ 268435456) (h1 : ∀ s ∈ pre, s.id < x.id) (h2 : ∀ s ∈ post, x.id ≤ s.id) (h0 : 0 ≤ x.id) (h0' : x.id ≤ 1000000) :
    v68 n ((pre ++ x :: post).map Th.enc) 3 x.id 0 0 0 0 [] 0 [] 0 [] 0 [] 0 0 0 0 0 [] 0 [] 0 [] 0 [] = some (false, (pre ++ post).map Th.enc, true) := by
  have hv := v109_eq n pre (x :: post) x.id hl h1 (fun s hs => by
    rcases List.mem_cons.1 hs with rfl | hs
    · omega
    · exact h2 s hs)
  have hh : headIs x.id (x :: post) = true := by show (x.id == x.id) = true; simp
  rw [hh] at hv
  have he : v25 3 x.id 0 0 0 0 [] 0 [] 0 [] 0 [] 0 0 0 0 0 [] 0 [] 0 [] 0 [] = some true := by
    have := v25_eq (evLeave x.id)
    rw [ok_leave h0 h0'] at this
    exact this
  have hnf : n = false := by
    cases n with
    | false => rfl
    | true => have := hn rfl; simp at this
  subst hnf
  unfold v68 d68
  rw [hv, Dt.val_some, he, Dt.val_some]
  refine (Dt.val_no rfl).trans ?_
  refine (Dt.val_no rfl).trans ?_
  rw [v88_eq hn hl, Dt.val_some, Dt.val_yes (rows_all _)]
  simp only [flat_strip, toNat_cast]
  refine (Dt.val_no rfl).trans ?_
  refine (Dt.val_no rfl).trans ?_
  refine (Dt.val_no rfl).trans ?_
  have hlen : ((pre ++ x :: post).map Th.enc).length = (pre ++ x :: post).length := by simp
  have hlen2 : (pre ++ x :: post).length - 1 = (pre ++ post).length := by simp
  have e1 : (flat (pre ++ x :: post)).take (pre.length * 11) ++ (flat (pre ++ x :: post)).drop ((pre.length + 1) * 11) = flat (pre ++ post) := by
    rw [flat_take, flat_append pre post]
    congr 1
    have := flat_drop (pre ++ [x]) post
    simpa using this
  have hw : wrapF .i64 ((pre.length : Int) + 1) = (pre.length : Int) + 1 := wrap_i64 (by omega) (by simp at hl; omega)
  rw [e1]
  rw [Dt.val_yes (by rw [hlen, flat_length, flat_noSl, hw]; simp), Dt.val_yes (by rw [hlen]; simp at hl ⊢; omega), Dt.val_yes (by rw [hlen, hlen2, flat_length, flat_pure]; simp), Dt.val_ret, hlen, hlen2, flat_chunk]

/-- An event that changes a thing which is there. -/
theorem v68_update {n : Bool} {pre post : List Th} {x : Th} {d : De} (hn : n = true → pre ++ x :: post = []) (hl : (pre ++ x :: post).length ≤ 268435456) (h1 : ∀ s ∈ pre, s.id < x.id) (h2 : ∀ s ∈ post, x.id ≤ s.id) (hd : d.ok = true) (hid : d.id = x.id) :
    v68 n ((pre ++ x :: post).map Th.enc) 2 d.id 0 0 0 0 [] 0 [] 0 [] 0 [] d.id d.m d.x d.y d.a.n d.a.s d.b.n d.b.s d.c.n d.c.s d.d.n d.d.s = some (false, (pre ++ x.app d :: post).map Th.enc, true) := by
  have hv := v109_eq n pre (x :: post) x.id hl h1 (fun s hs => by
    rcases List.mem_cons.1 hs with rfl | hs
    · omega
    · exact h2 s hs)
  have hh : headIs x.id (x :: post) = true := by show (x.id == x.id) = true; simp
  rw [hh] at hv
  have he : v25 2 d.id 0 0 0 0 [] 0 [] 0 [] 0 [] d.id d.m d.x d.y d.a.n d.a.s d.b.n d.b.s d.c.n d.c.s d.d.n d.d.s = some true := by
    have := v25_eq (evUpdate d)
    rw [ok_update hd] at this
    exact this
  have hnf : n = false := by
    cases n with
    | false => rfl
    | true => have := hn rfl; simp at this
  subst hnf
  have hlen : ((pre ++ x :: post).map Th.enc).length = (pre ++ x :: post).length := by simp
  unfold v68 d68
  rw [he, hid, hv, Dt.val_some, Dt.val_some]
  refine (Dt.val_no rfl).trans ?_
  refine (Dt.val_no rfl).trans ?_
  rw [v88_eq hn hl, Dt.val_some, Dt.val_yes (rows_all _)]
  simp only [flat_strip, toNat_cast]
  have hn0 : nth (flat (pre ++ x :: post)) (0 + pre.length * 11) = I x.id := by have := nth_flat pre post x 0; rw [Nat.add_zero] at this; rw [this]; rfl
  have hidx : (((decide (0 ≤ (pre.length : Int))) && (decide ((pre.length : Int) < ((pre ++ x :: post).map Th.enc).length))) && true) = true := idx_ok (by simp)
  refine (Dt.val_no rfl).trans ?_
  refine (Dt.val_no rfl).trans ?_
  refine (Dt.val_yes rfl).trans ?_
  rw [Dt.val_yes hidx, Dt.val_yes (epOk_flat pre post x)]
  simp only [nth_flat pre post x, hn0]
  have ha := v113_eq x d
  rw [hid] at ha
  have ha' : v113 (I x.id).intOf (nth (x.enc ++ flat post) 1).intOf (nth (x.enc ++ flat post) 2).intOf (nth (x.enc ++ flat post) 3).intOf (nth (x.enc ++ flat post) 4).strOf (nth (x.enc ++ flat post) 5).intOf (nth (x.enc ++ flat post) 6).strOf (nth (x.enc ++ flat post) 7).intOf (nth (x.enc ++ flat post) 8).strOf (nth (x.enc ++ flat post) 9).intOf (nth (x.enc ++ flat post) 10).strOf x.id d.m d.x d.y d.a.n d.a.s d.b.n d.b.s d.c.n d.c.s d.d.n d.d.s = some (x.app d).rest := ha
  rw [ha', Dt.val_some, Dt.val_yes hidx, flat_length, Dt.val_yes (by simp; omega)]
  have e1 : splice (flat (pre ++ x :: post)) (0 + pre.length * 11) (x.app d).enc = flat (pre ++ x.app d :: post) := by
    unfold splice
    have h3 := flat_drop (pre ++ [x]) post
    rw [Nat.zero_add, flat_take, flat_append pre, flat_append pre, flat_cons]
    have h4 : pre.length * 11 + (x.app d).enc.length = (pre ++ [x]).length * 11 := by
      rw [show (x.app d).enc.length = 11 from rfl]; simp; omega
    rw [h4]
    have h5 : flat pre ++ (x.enc ++ flat post) = flat ((pre ++ [x]) ++ post) := by rw [← flat_cons, ← flat_append]; simp
    rw [h5, h3, List.append_assoc]
    rfl
  have e2 : (x.app d).enc = [(.int .i64 (I x.id).intOf), (.int .i64 (x.app d).rest.1), (.int .i64 (x.app d).rest.2.1), (.int .i64 (x.app d).rest.2.2.1), (.str (x.app d).rest.2.2.2.1), (.int .i64 (x.app d).rest.2.2.2.2.1), (.str (x.app d).rest.2.2.2.2.2.1), (.int .i64 (x.app d).rest.2.2.2.2.2.2.1), (.str (x.app d).rest.2.2.2.2.2.2.2.1), (.int .i64 (x.app d).rest.2.2.2.2.2.2.2.2.1), (.str (x.app d).rest.2.2.2.2.2.2.2.2.2)] := rfl
  rw [← e2, e1]
  have hlen2 : (pre ++ x :: post).length = (pre ++ x.app d :: post).length := by simp
  rw [Dt.val_yes (by rw [hlen, hlen2, flat_length, flat_pure]; simp), Dt.val_ret, hlen, hlen2, flat_chunk]
end Go.Ab
