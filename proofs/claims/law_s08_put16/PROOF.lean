import PyProof.Rows.All
import Wide.All
import OpenK.AllK
import Wide.FinOn
import Open.SpecLaws
import KE.OsHead
import KE.OsGo
import HandS.ForSpec
import HandS.ForMost
import HandS.Walk
import PySem.Challenge.RW_placelists_s08_put16
set_option Elab.async false
set_option maxRecDepth 100000
set_option maxHeartbeats 2000000
namespace Pl
/-! plain mathematics: lists and numbers alone -/
def hmd (ps : List Int) (many : Int) : Nat := (ps.takeWhile fun p => decide (p < many)).length
def ix (t : List Int) (p : Int) : Int := t.getD p.toNat 0
def NN (l : List Int) : Prop := ∀ x ∈ l, 0 ≤ x
theorem NN.tail {x : Int} {l : List Int} (h : NN (x :: l)) : NN l := fun y hy => h y (List.mem_cons_of_mem _ hy)
theorem NN.head {x : Int} {l : List Int} (h : NN (x :: l)) : 0 ≤ x := h x (List.mem_cons_self ..)
theorem toNat_back {l : List Int} (h : NN l) : (l.map Int.toNat).map (fun (x : Nat) => (x : Int)) = l := by
  induction l with
  | nil => rfl
  | cons x r ih =>
    have e := ih h.tail
    rw [List.map_cons, List.map_cons, e, Int.toNat_of_nonneg h.head]
theorem ix_toNat {t : List Int} (h : NN t) (p : Int) : ix t p = (((t.map Int.toNat).getD p.toNat 0 : Nat) : Int) := by
  unfold ix
  rw [List.getD_eq_getElem?_getD, List.getD_eq_getElem?_getD, List.getElem?_map]
  cases e : t[p.toNat]? with
  | none => rfl
  | some z =>
    have := h z (List.mem_of_getElem? e)
    simp [Int.toNat_of_nonneg this]
theorem done_eq {at_ : List Int} (h : NN at_) (n : Nat) : Rc04.done n (at_.map Int.toNat) = hmd at_ (n : Int) := by
  unfold Rc04.done hmd
  induction at_ with
  | nil => rfl
  | cons p r ih =>
    have hp := h.head
    rw [List.map_cons, List.takeWhile_cons, List.takeWhile_cons]
    have e : (decide (p.toNat < n)) = decide (p < (n : Int)) := by
      by_cases c : p < (n : Int)
      · rw [decide_eq_true c, decide_eq_true (by omega)]
      · rw [decide_eq_false c, decide_eq_false (by omega)]
    rw [e]
    split
    · rw [List.length_cons, List.length_cons, ih h.tail]
    · rfl
theorem hmd_le (ps : List Int) (m : Int) : hmd ps m ≤ ps.length := by
  unfold hmd
  exact (List.takeWhile_sublist _).length_le
/-- the places that are done are below -/
theorem hmd_lt {ps : List Int} {m : Int} : ∀ {i : Nat} {p : Int}, i < hmd ps m → ps[i]? = some p → p < m := by
  unfold hmd
  induction ps with
  | nil =>
    intro i p h _
    simp at h
  | cons q r ih =>
    intro i p h e
    rw [List.takeWhile_cons] at h
    by_cases c : q < m
    · rw [decide_eq_true c] at h
      cases i with
      | zero =>
        simp at e
        omega
      | succ i =>
        simp at e h
        exact ih h e
    · rw [decide_eq_false c] at h
      simp at h
/-- how the loop finds it -/
theorem hmd_at {ps : List Int} {m : Int} : ∀ {i : Nat} {p : Int}, (∀ (j : Nat) (q : Int), j < i → ps[j]? = some q → q < m) → ps[i]? = some p → ¬ p < m → hmd ps m = i := by
  unfold hmd
  induction ps with
  | nil =>
    intro i p _ h _
    simp at h
  | cons q r ih =>
    intro i p ha e hn
    rw [List.takeWhile_cons]
    cases i with
    | zero =>
      simp at e
      subst e
      rw [decide_eq_false hn]
      rfl
    | succ i =>
      have c : q < m := ha 0 q (by omega) rfl
      rw [decide_eq_true c]
      have := ih (i := i) (p := p) (fun j q' hj he => ha (j + 1) q' (by omega) (by simpa using he)) (by simpa using e) hn
      simp only [if_true, List.length_cons]
      omega
theorem hmd_all {ps : List Int} {m : Int} (h : ∀ (j : Nat) (q : Int), ps[j]? = some q → q < m) : hmd ps m = ps.length := by
  unfold hmd
  induction ps with
  | nil => rfl
  | cons q r ih =>
    have c : q < m := h 0 q rfl
    rw [List.takeWhile_cons, decide_eq_true c]
    simp only [if_true, List.length_cons]
    rw [ih fun j q' he => h (j + 1) q' (by simpa using he)]
theorem take_succ_at {α : Type} : ∀ {l : List α} {i : Nat} {x : α}, l[i]? = some x → l.take (i + 1) = l.take i ++ [x]
  | [], i, x, h => by simp at h
  | a :: l, 0, x, h => by
    have e : a = x := Option.some.inj h
    subst e
    rfl
  | a :: l, i + 1, x, h => by
    have ih := take_succ_at (l := l) (i := i) (x := x) h
    show a :: l.take (i + 1) = a :: l.take i ++ [x]
    rw [ih]
    rfl
/-! reading a call's line -/
theorem list_app (l r : List Int) : Rc04Neutral.list ((l.length : Int) :: (l ++ r)) = some (l.map Int.toNat, r) := by
  show (if 0 ≤ (l.length : Int) ∧ ((l.length : Int)).toNat ≤ (l ++ r).length then some (((l ++ r).take ((l.length : Int)).toNat).map Int.toNat, (l ++ r).drop ((l.length : Int)).toNat) else none) = _
  rw [if_pos ⟨by omega, by simp⟩]
  simp
theorem list_end (l : List Int) : Rc04Neutral.list ((l.length : Int) :: l) = some (l.map Int.toNat, []) := by
  have := list_app l []
  rwa [List.append_nil] at this
def takenM (t at_ : List Int) : List Int := (hmd at_ t.length : Int) :: (at_.take (hmd at_ t.length)).map (ix t)
theorem take_out {t at_ : List Int} (ht : NN t) (ha : NN at_) :
    ((Rc04.done (t.map Int.toNat).length (at_.map Int.toNat) : Nat) : Int) :: (Rc04.take (t.map Int.toNat) (at_.map Int.toNat)).map (fun (x : Nat) => (x : Int)) = takenM t at_ := by
  unfold takenM Rc04.take
  rw [List.length_map, done_eq ha]
  refine congrArg _ ?_
  rw [← List.map_take, List.map_map, List.map_map]
  refine List.map_congr_left fun p _ => ?_
  exact (ix_toNat ht p).symm
theorem take32_is {t at_ : List Int} (ht : NN t) (ha : NN at_) : PyRc04.take32 t at_ = takenM t at_ := by
  have e : ∃ b, Rc04Neutral.callOf (0 :: ((t.length : Int) :: (t ++ ((t.length : Int) :: ((at_.length : Int) :: (at_ ++ [(at_.length : Int)])))))) = some (.take32 (t.map Int.toNat) (at_.map Int.toNat), b) := by
    unfold Rc04Neutral.callOf
    simp [list_app]
  obtain ⟨b, e⟩ := e
  unfold PyRc04.take32 Rc04Neutral.f
  simp only [List.cons_append, List.nil_append, List.append_assoc]
  rw [e]
  exact take_out ht ha
theorem take64_is {t at_ : List Int} (ht : NN t) (ha : NN at_) : PyRc04.take64 t at_ = takenM t at_ := by
  have e : ∃ b, Rc04Neutral.callOf (1 :: ((t.length : Int) :: (t ++ ((t.length : Int) :: ((at_.length : Int) :: (at_ ++ [(at_.length : Int)])))))) = some (.take64 (t.map Int.toNat) (at_.map Int.toNat), b) := by
    unfold Rc04Neutral.callOf
    simp [list_app]
  obtain ⟨b, e⟩ := e
  unfold PyRc04.take64 Rc04Neutral.f
  simp only [List.cons_append, List.nil_append, List.append_assoc]
  rw [e]
  exact take_out ht ha
end Pl
namespace Pl
def putL (join : Int → Int → Int) : List Int → List (Int × Int) → List Int
  | t, [] => t
  | t, (p, v) :: l => putL join (t.set p.toNat (join (ix t p) v)) l
theorem putL_len (join : Int → Int → Int) : ∀ (l : List (Int × Int)) (t : List Int), (putL join t l).length = t.length
  | [], _ => rfl
  | (p, v) :: l, t => by
    rw [putL, putL_len join l, List.length_set]
theorem putL_snoc (join : Int → Int → Int) : ∀ (l : List (Int × Int)) (t : List Int) (p v : Int), putL join t (l ++ [(p, v)]) = (putL join t l).set p.toNat (join (ix (putL join t l) p) v)
  | [], _, _, _ => rfl
  | (q, w) :: l, t, p, v => by
    rw [List.cons_append, putL, putL, putL_snoc join l]
theorem NN.set {t : List Int} (h : NN t) {x : Int} (hx : 0 ≤ x) (k : Nat) : NN (t.set k x) := fun y hy => by
  rcases List.mem_or_eq_of_mem_set hy with h1 | h1
  · exact h y h1
  · rw [h1]
    exact hx
theorem NN.ix {t : List Int} (h : NN t) (p : Int) : 0 ≤ ix t p := by
  rw [ix_toNat h]
  omega
theorem set_toNat (t : List Int) (k : Nat) (x : Int) : (t.set k x).map Int.toNat = (t.map Int.toNat).set k x.toNat := by
  rw [List.map_set]
theorem put_is (jn : Nat → Nat → Nat) (join : Int → Int → Int) (hj : ∀ x y : Int, 0 ≤ x → 0 ≤ y → 0 ≤ join x y ∧ jn x.toNat y.toNat = (join x y).toNat) :
    ∀ (a v t : List Int), NN a → NN v → NN t → (Rc04.put jn (t.map Int.toNat) ((a.map Int.toNat).zip (v.map Int.toNat))).map (fun (x : Nat) => (x : Int)) = putL join t ((a.zip v).take (hmd a t.length))
  | [], v, t, _, _, ht => by
    simp only [List.map_nil, List.zip_nil_left, List.take_nil, putL]
    rw [Rc04.put]
    exact toNat_back ht
  | p :: a, [], t, _, _, ht => by
    simp only [List.map_nil, List.zip_nil_right, List.take_nil, putL]
    rw [Rc04.put]
    exact toNat_back ht
  | p :: a, w :: v, t, ha, hv, ht => by
    have hp := ha.head
    have hw := hv.head
    rw [List.map_cons, List.map_cons, List.zip_cons_cons, List.zip_cons_cons, Rc04.put]
    unfold hmd
    rw [List.takeWhile_cons]
    by_cases c : p < (t.length : Int)
    · rw [if_pos (show p.toNat < (t.map Int.toNat).length by rw [List.length_map]; omega), decide_eq_true c]
      obtain ⟨j1, j2⟩ := hj (ix t p) w (ht.ix p) hw
      have e : (t.map Int.toNat).set p.toNat (jn ((t.map Int.toNat).getD p.toNat 0) w.toNat) = (t.set p.toNat (join (ix t p) w)).map Int.toNat := by
        rw [set_toNat, ← j2]
        have q : (ix t p).toNat = (t.map Int.toNat).getD p.toNat 0 := by
          rw [ix_toNat ht]
          omega
        rw [q]
      rw [e, put_is jn join hj a v _ ha.tail hv.tail (ht.set j1 _)]
      simp only [if_true, List.length_cons, List.take_succ_cons, putL, List.length_set]
      rfl
    · rw [if_neg (show ¬ p.toNat < (t.map Int.toNat).length by rw [List.length_map]; omega), decide_eq_false c]
      simp only [Bool.false_eq_true, if_false, List.length_nil, List.take_zero, putL]
      exact toNat_back ht
def jLast (_ v : Int) : Int := v
def jMost (x v : Int) : Int := if v > x then v else x
theorem jLast_ok : ∀ x y : Int, 0 ≤ x → 0 ≤ y → 0 ≤ jLast x y ∧ Rc04.last x.toNat y.toNat = (jLast x y).toNat := fun _ _ _ hy => ⟨hy, rfl⟩
theorem jMost_ok : ∀ x y : Int, 0 ≤ x → 0 ≤ y → 0 ≤ jMost x y ∧ max x.toNat y.toNat = (jMost x y).toNat := fun x y hx hy => by
  unfold jMost
  split <;> omega
def putM (join : Int → Int → Int) (t at_ v : List Int) : List Int := (hmd at_ t.length : Int) :: putL join t ((at_.zip v).take (hmd at_ t.length))
theorem put_out (jn : Nat → Nat → Nat) (join : Int → Int → Int) (hj : ∀ x y : Int, 0 ≤ x → 0 ≤ y → 0 ≤ join x y ∧ jn x.toNat y.toNat = (join x y).toNat) {t at_ v : List Int} (ht : NN t) (ha : NN at_) (hv : NN v) :
    ((Rc04.done (t.map Int.toNat).length (at_.map Int.toNat) : Nat) : Int) :: (Rc04.put jn (t.map Int.toNat) ((at_.map Int.toNat).zip (v.map Int.toNat))).map (fun (x : Nat) => (x : Int)) = putM join t at_ v := by
  unfold putM
  rw [List.length_map, done_eq ha, put_is jn join hj at_ v t ha hv ht]
theorem put32_is {t at_ v : List Int} (ht : NN t) (ha : NN at_) (hv : NN v) : PyRc04.put32 t at_ v = putM jLast t at_ v := by
  have e : ∃ b, Rc04Neutral.callOf (3 :: ((t.length : Int) :: (t ++ ((t.length : Int) :: ((at_.length : Int) :: (at_ ++ ((at_.length : Int) :: ((v.length : Int) :: v)))))))) = some (.put32 (t.map Int.toNat) (at_.map Int.toNat) (v.map Int.toNat), b) := by
    unfold Rc04Neutral.callOf
    simp [list_app, list_end]
  obtain ⟨b, e⟩ := e
  unfold PyRc04.put32 Rc04Neutral.f
  simp only [List.cons_append, List.nil_append, List.append_assoc]
  rw [e]
  exact put_out _ _ jLast_ok ht ha hv
theorem put64_is {t at_ v : List Int} (ht : NN t) (ha : NN at_) (hv : NN v) : PyRc04.put64 t at_ v = putM jLast t at_ v := by
  have e : ∃ b, Rc04Neutral.callOf (4 :: ((t.length : Int) :: (t ++ ((t.length : Int) :: ((at_.length : Int) :: (at_ ++ ((at_.length : Int) :: ((v.length : Int) :: v)))))))) = some (.put64 (t.map Int.toNat) (at_.map Int.toNat) (v.map Int.toNat), b) := by
    unfold Rc04Neutral.callOf
    simp [list_app, list_end]
  obtain ⟨b, e⟩ := e
  unfold PyRc04.put64 Rc04Neutral.f
  simp only [List.cons_append, List.nil_append, List.append_assoc]
  rw [e]
  exact put_out _ _ jLast_ok ht ha hv
theorem most32_is {t at_ v : List Int} (ht : NN t) (ha : NN at_) (hv : NN v) : PyRc04.most32 t at_ v = putM jMost t at_ v := by
  have e : ∃ b, Rc04Neutral.callOf (5 :: ((t.length : Int) :: (t ++ ((t.length : Int) :: ((at_.length : Int) :: (at_ ++ ((at_.length : Int) :: ((v.length : Int) :: v)))))))) = some (.most32 (t.map Int.toNat) (at_.map Int.toNat) (v.map Int.toNat), b) := by
    unfold Rc04Neutral.callOf
    simp [list_app, list_end]
  obtain ⟨b, e⟩ := e
  unfold PyRc04.most32 Rc04Neutral.f
  simp only [List.cons_append, List.nil_append, List.append_assoc]
  rw [e]
  exact put_out _ _ jMost_ok ht ha hv
theorem put32_asks {t at_ v : List Int} (h : PyRc04.put32_asked t at_ v = true) : at_.length = v.length := by
  unfold PyRc04.put32_asked Rc04Neutral.asked at h
  simp only [List.cons_append, List.nil_append, List.append_assoc] at h
  rw [Bool.and_eq_true] at h
  have h2 := h.2
  rw [List.all_cons, List.all_nil, Bool.and_true, Bool.and_eq_true] at h2
  have h3 := h2.2
  unfold Rc04Neutral.callOf at h3
  simp [list_app, list_end, Rc04Neutral.right] at h3
  omega
theorem put64_asks {t at_ v : List Int} (h : PyRc04.put64_asked t at_ v = true) : at_.length = v.length := by
  unfold PyRc04.put64_asked Rc04Neutral.asked at h
  simp only [List.cons_append, List.nil_append, List.append_assoc] at h
  rw [Bool.and_eq_true] at h
  have h2 := h.2
  rw [List.all_cons, List.all_nil, Bool.and_true, Bool.and_eq_true] at h2
  have h3 := h2.2
  unfold Rc04Neutral.callOf at h3
  simp [list_app, list_end, Rc04Neutral.right] at h3
  omega
theorem most32_asks {t at_ v : List Int} (h : PyRc04.most32_asked t at_ v = true) : at_.length = v.length := by
  unfold PyRc04.most32_asked Rc04Neutral.asked at h
  simp only [List.cons_append, List.nil_append, List.append_assoc] at h
  rw [Bool.and_eq_true] at h
  have h2 := h.2
  rw [List.all_cons, List.all_nil, Bool.and_true, Bool.and_eq_true] at h2
  have h3 := h2.2
  unfold Rc04Neutral.callOf at h3
  simp [list_app, list_end, Rc04Neutral.right] at h3
  omega
end Pl
namespace Pl
/-! sixteen lanes -/
/-- a mask chooses a lane and its place is below -/
def ch (mask : Int) (i : Nat) : Bool := Rc04.chosen mask.toNat i
def lanesL (mask : Int) (at_ : List Int) (n : Int) : List Nat := (List.range 16).filter fun i => ch mask i && decide (ix at_ i < n)
theorem getD_map_toNat {l : List Int} (h : NN l) (i : Nat) : (((l.map Int.toNat).getD i 0 : Nat) : Int) = ix l i := by
  rw [ix_toNat h]
  rfl
theorem lane_toNat {l : List Int} (h : NN l) (i : Nat) : Rc04.lane (l.map Int.toNat) i = (ix l i).toNat := by
  have := getD_map_toNat h i
  unfold Rc04.lane
  omega
/-! ### take16 -/
def takeL (t at_ : List Int) : List Int → List Nat → List Int
  | found, [] => found
  | found, i :: l => takeL t at_ (found.set i (ix t (ix at_ i))) l
theorem takeL_snoc (t at_ : List Int) : ∀ (l : List Nat) (f : List Int) (i : Nat), takeL t at_ f (l ++ [i]) = (takeL t at_ f l).set i (ix t (ix at_ i))
  | [], _, _ => rfl
  | j :: l, f, i => by
    rw [List.cons_append, takeL, takeL, takeL_snoc t at_ l]
theorem takeL_len (t at_ : List Int) : ∀ (l : List Nat) (f : List Int), (takeL t at_ f l).length = f.length
  | [], _ => rfl
  | i :: l, f => by rw [takeL, takeL_len t at_ l, List.length_set]
theorem takeL_at (t at_ : List Int) : ∀ (l : List Nat) (f : List Int) (j : Nat), j < f.length → (takeL t at_ f l)[j]? = if j ∈ l then some (ix t (ix at_ j)) else f[j]?
  | [], f, j, _ => by simp [takeL]
  | i :: l, f, j, hj => by
    rw [takeL, takeL_at t at_ l _ j (by rw [List.length_set]; exact hj)]
    by_cases c : j ∈ l
    · rw [if_pos c, if_pos (List.mem_cons_of_mem _ c)]
    · rw [if_neg c]
      by_cases e : i = j
      · subst e
        rw [if_pos (List.mem_cons_self ..), List.getElem?_set_self hj]
      · rw [if_neg (by
          intro q
          rcases List.mem_cons.mp q with q | q
          · exact e q.symm
          · exact c q), List.getElem?_set_ne e]
def take16M (mask : Int) (t at_ other : List Int) : List Int := 0 :: takeL t at_ other (lanesL mask at_ t.length)
theorem lanes_at (f : Nat → Nat) (j : Nat) (hj : j < 16) : (Rc04.lanes f)[j]? = some (f j) := by
  unfold Rc04.lanes
  rw [List.getElem?_map, List.getElem?_range hj]
  rfl
theorem lanes_len (f : Nat → Nat) : (Rc04.lanes f).length = 16 := by
  unfold Rc04.lanes
  rw [List.length_map, List.length_range]
theorem ix_at {l : List Int} {i : Nat} (h : i < l.length) : l[i]? = some (ix l i) := by
  unfold ix
  rw [List.getD_eq_getElem?_getD, Int.toNat_natCast, List.getElem?_eq_getElem h]
  rfl
theorem mem_lanesL {mask : Int} {at_ : List Int} {n : Int} {i : Nat} : i ∈ lanesL mask at_ n ↔ i < 16 ∧ ch mask i = true ∧ ix at_ i < n := by
  unfold lanesL
  rw [List.mem_filter, List.mem_range, Bool.and_eq_true, decide_eq_true_eq]
theorem take16_is {mask : Int} {t at_ other : List Int} (ht : NN t) (ha : NN at_) (ho : NN other) (hl : other.length = 16) : PyRc04.take16 mask t at_ other = take16M mask t at_ other := by
  have e : ∃ b, Rc04Neutral.callOf (6 :: ((t.length : Int) :: (t ++ ((t.length : Int) :: ((at_.length : Int) :: (at_ ++ ((other.length : Int) :: (other ++ [mask])))))))) = some (.take16 (t.map Int.toNat) (at_.map Int.toNat) (other.map Int.toNat) mask.toNat, b) := by
    unfold Rc04Neutral.callOf
    simp [list_app]
  obtain ⟨b, e⟩ := e
  unfold PyRc04.take16 Rc04Neutral.f
  simp only [List.cons_append, List.nil_append, List.append_assoc]
  rw [e]
  show (0 : Int) :: (Rc04.take16 (t.map Int.toNat) (at_.map Int.toNat) (other.map Int.toNat) mask.toNat).map (fun (x : Nat) => (x : Int)) = take16M mask t at_ other
  unfold take16M
  refine congrArg _ ?_
  refine List.ext_getElem? fun j => ?_
  unfold Rc04.take16
  by_cases hj : j < 16
  · rw [List.getElem?_map, lanes_at _ j hj, takeL_at t at_ _ _ j (by omega), List.length_map, lane_toNat ha]
    have q : (ix at_ ↑j).toNat < t.length ↔ ix at_ ↑j < (t.length : Int) := by
      have := ha.ix (j : Int)
      omega
    by_cases c : ch mask j = true ∧ ix at_ (j : Int) < (t.length : Int)
    · rw [if_pos (mem_lanesL.mpr ⟨hj, c⟩), if_pos ⟨c.1, q.mpr c.2⟩]
      show some _ = some _
      have := ix_toNat ht (ix at_ (j : Int))
      rw [this]
    · rw [if_neg (fun z => c (mem_lanesL.mp z).2), if_neg (fun z => c ⟨z.1, q.mp z.2⟩)]
      rw [lane_toNat ho, ix_at (by omega)]
      show some (((ix other (j : Int)).toNat : Nat) : Int) = some (ix other (j : Int))
      rw [Int.toNat_of_nonneg (ho.ix _)]
  · rw [List.getElem?_eq_none (by rw [List.length_map, lanes_len]; omega), List.getElem?_eq_none (by rw [takeL_len]; omega)]
end Pl
namespace Pl
/-! put16: the table, and who stays -/
def pairsL (at_ v : List Int) (L : List Nat) : List (Int × Int) := L.map fun (i : Nat) => (ix at_ (i : Int), ix v (i : Int))
theorem put_all (jn : Nat → Nat → Nat) (join : Int → Int → Int) (hj : ∀ x y : Int, 0 ≤ x → 0 ≤ y → 0 ≤ join x y ∧ jn x.toNat y.toNat = (join x y).toNat) :
    ∀ (l : List (Int × Int)) (t : List Int), NN t → (∀ q ∈ l, 0 ≤ q.1 ∧ q.1 < (t.length : Int) ∧ 0 ≤ q.2) → (Rc04.put jn (t.map Int.toNat) (l.map fun q => (q.1.toNat, q.2.toNat))).map (fun (x : Nat) => (x : Int)) = putL join t l
  | [], t, ht, _ => by
    rw [List.map_nil, Rc04.put, putL]
    exact toNat_back ht
  | (p, w) :: l, t, ht, hl => by
    obtain ⟨hp, c, hw⟩ := hl (p, w) (List.mem_cons_self ..)
    rw [List.map_cons, Rc04.put, if_pos (show p.toNat < (t.map Int.toNat).length by rw [List.length_map]; omega)]
    obtain ⟨j1, j2⟩ := hj (ix t p) w (ht.ix p) hw
    have e : (t.map Int.toNat).set p.toNat (jn ((t.map Int.toNat).getD p.toNat 0) w.toNat) = (t.set p.toNat (join (ix t p) w)).map Int.toNat := by
      rw [set_toNat, ← j2]
      have q : (ix t p).toNat = (t.map Int.toNat).getD p.toNat 0 := by
        rw [ix_toNat ht]
        omega
      rw [q]
    show (Rc04.put jn ((t.map Int.toNat).set p.toNat (jn ((t.map Int.toNat).getD p.toNat 0) w.toNat)) (l.map fun q => (q.1.toNat, q.2.toNat))).map (fun (x : Nat) => (x : Int)) = _
    rw [e, put_all jn join hj l _ (ht.set j1 _) fun q hq => by
      rw [List.length_set]
      exact hl q (List.mem_cons_of_mem _ hq)]
    rfl
/-- the dict: a place's last lane -/
def putD (d : List (Int × Nat)) (p : Int) (i : Nat) : List (Int × Nat) := if (d.any fun kv => decide (kv.1 = p)) = true then d.map (fun kv => if kv.1 = p then (kv.1, i) else kv) else d ++ [(p, i)]
def dictL (at_ : List Int) (L : List Nat) : List (Int × Nat) := L.foldl (fun d (i : Nat) => putD d (ix at_ (i : Int)) i) []
theorem dictL_snoc (at_ : List Int) (L : List Nat) (i : Nat) : dictL at_ (L ++ [i]) = putD (dictL at_ L) (ix at_ i) i := by
  unfold dictL
  rw [List.foldl_append]
  rfl
def lastIn (at_ : List Int) (L : List Nat) (i : Nat) : Bool := L.all fun j => !(decide (i < j) && decide (ix at_ j = ix at_ i))
structure DOk (at_ : List Int) (L : List Nat) (d : List (Int × Nat)) : Prop where
  nd : (d.map (·.1)).Nodup
  pl : ∀ kv ∈ d, ix at_ kv.2 = kv.1
  perm : (d.map (·.2)).Perm (L.filter (lastIn at_ L))
  mem : ∀ kv ∈ d, kv.2 ∈ L
theorem keys_map (p : Int) (i : Nat) (d : List (Int × Nat)) : (d.map fun kv => if kv.1 = p then (kv.1, i) else kv).map (·.1) = d.map (·.1) := by
  rw [List.map_map]
  refine List.map_congr_left fun kv _ => ?_
  show (if kv.1 = p then (kv.1, i) else kv).1 = kv.1
  split <;> rfl
theorem map_none {p : Int} {i : Nat} : ∀ {d : List (Int × Nat)}, (∀ kv ∈ d, ¬ kv.1 = p) → d.map (fun kv => if kv.1 = p then (kv.1, i) else kv) = d
  | [], _ => rfl
  | kv :: d, h => by
    rw [List.map_cons, if_neg (h kv (List.mem_cons_self ..)), map_none fun x hx => h x (List.mem_cons_of_mem _ hx)]
theorem filter_all {α : Type} {f : α → Bool} {l : List α} (h : ∀ x ∈ l, f x = true) : l.filter f = l := List.filter_eq_self.mpr h
theorem vals_put {at_ : List Int} {p : Int} {m : Nat} : ∀ {d : List (Int × Nat)}, (d.map (·.1)).Nodup → (∀ kv ∈ d, ix at_ kv.2 = kv.1) → (∃ kv ∈ d, kv.1 = p) →
    ((d.map fun kv => if kv.1 = p then (kv.1, m) else kv).map (·.2)).Perm (((d.map (·.2)).filter fun (i : Nat) => !decide (ix at_ (i : Int) = p)) ++ [m])
  | [], _, _, ⟨_, h, _⟩ => absurd h (by simp)
  | (k, v) :: d, nd, ha, hex => by
    rw [List.map_cons, List.nodup_cons] at nd
    have hv : ix at_ v = k := ha (k, v) (List.mem_cons_self ..)
    have ha' : ∀ kv ∈ d, ix at_ kv.2 = kv.1 := fun x hx => ha x (List.mem_cons_of_mem _ hx)
    by_cases c : k = p
    · subst c
      have no : ∀ kv ∈ d, ¬ kv.1 = k := fun kv hkv e => nd.1 (by
        rw [← e]
        exact List.mem_map_of_mem (f := (·.1)) hkv)
      rw [List.map_cons, map_none no, List.map_cons, List.map_cons, if_pos rfl, List.filter_cons, if_neg (by simp [hv]), filter_all fun i hi => by
        obtain ⟨kv, hkv, e⟩ := List.mem_map.mp hi
        subst e
        rw [ha' kv hkv, decide_eq_false (no kv hkv)]
        rfl]
      exact List.perm_append_comm (l₁ := [m]) (l₂ := d.map (·.2))
    · rw [List.map_cons, List.map_cons, List.map_cons, if_neg c, List.filter_cons, if_pos (by simp [hv, c]), List.cons_append]
      refine List.Perm.cons _ (vals_put nd.2 ha' ?_)
      obtain ⟨kv, hkv, e⟩ := hex
      rcases List.mem_cons.mp hkv with q | q
      · rw [q] at e
        exact absurd e c
      · exact ⟨kv, q, e⟩
theorem filter_snoc {at_ : List Int} {L : List Nat} {m : Nat} (hm : ∀ i ∈ L, i < m) : (L ++ [m]).filter (lastIn at_ (L ++ [m])) = ((L.filter (lastIn at_ L)).filter fun (i : Nat) => !decide (ix at_ (i : Int) = ix at_ (m : Int))) ++ [m] := by
  rw [List.filter_append, List.filter_filter]
  congr 1
  · refine List.filter_congr fun i hi => ?_
    unfold lastIn
    rw [List.all_append, List.all_cons, List.all_nil, Bool.and_true, decide_eq_true (hm i hi), Bool.true_and, Bool.and_comm]
    congr 2
    exact decide_eq_decide.mpr ⟨fun e => e.symm, fun e => e.symm⟩
  · rw [List.filter_cons, List.filter_nil, if_pos]
    unfold lastIn
    rw [List.all_eq_true]
    intro j hj
    have : ¬ m < j := by
      rcases List.mem_append.mp hj with q | q
      · have := hm j q
        omega
      · simp at q
        omega
    rw [decide_eq_false this]
    rfl
theorem DOk.step {at_ : List Int} {L : List Nat} {d : List (Int × Nat)} {m : Nat} (D : DOk at_ L d) (hm : ∀ i ∈ L, i < m) : DOk at_ (L ++ [m]) (putD d (ix at_ m) m) := by
  unfold putD
  by_cases c : (d.any fun kv => decide (kv.1 = ix at_ m)) = true
  · rw [if_pos c]
    have hex : ∃ kv ∈ d, kv.1 = ix at_ m := by
      obtain ⟨kv, h1, h2⟩ := List.any_eq_true.mp c
      exact ⟨kv, h1, of_decide_eq_true h2⟩
    refine ⟨by rw [keys_map]; exact D.nd, fun kv hkv => ?_, ?_, fun kv hkv => ?_⟩
    · obtain ⟨x, hx, e⟩ := List.mem_map.mp hkv
      by_cases q : x.1 = ix at_ m
      · rw [if_pos q] at e
        subst e
        exact q.symm
      · rw [if_neg q] at e
        subst e
        exact D.pl x hx
    · rw [filter_snoc hm]
      exact (vals_put D.nd D.pl hex).trans ((D.perm.filter _).append_right _)
    · obtain ⟨x, hx, e⟩ := List.mem_map.mp hkv
      by_cases q : x.1 = ix at_ m
      · rw [if_pos q] at e
        subst e
        simp
      · rw [if_neg q] at e
        subst e
        exact List.mem_append.mpr (.inl (D.mem x hx))
  · rw [if_neg c]
    have no : ∀ kv ∈ d, ¬ kv.1 = ix at_ m := fun kv hkv e => c (List.any_eq_true.mpr ⟨kv, hkv, decide_eq_true e⟩)
    refine ⟨?_, fun kv hkv => ?_, ?_, fun kv hkv => ?_⟩
    · rw [List.map_append, List.map_cons, List.map_nil, List.nodup_append]
      refine ⟨D.nd, by simp, fun a ha b hb e => ?_⟩
      obtain ⟨kv, hkv, q⟩ := List.mem_map.mp ha
      simp at hb
      exact no kv hkv (by rw [q, e, hb])
    · rcases List.mem_append.mp hkv with q | q
      · exact D.pl kv q
      · simp at q
        rw [q]
    · rw [filter_snoc hm, List.map_append]
      refine List.Perm.append_right _ ?_
      have e : (d.map (·.2)).filter (fun (i : Nat) => !decide (ix at_ (i : Int) = ix at_ (m : Int))) = d.map (·.2) := filter_all fun i hi => by
        obtain ⟨kv, hkv, e⟩ := List.mem_map.mp hi
        subst e
        rw [D.pl kv hkv, decide_eq_false (no kv hkv)]
        rfl
      rw [← e]
      exact D.perm.filter _
    · rcases List.mem_append.mp hkv with q | q
      · exact List.mem_append.mpr (.inl (D.mem kv q))
      · simp at q
        rw [q]
        simp
theorem dictL_ok (at_ : List Int) : ∀ (n : Nat) (L : List Nat), L.length = n → L.Pairwise (· < ·) → DOk at_ L (dictL at_ L)
  | 0, L, hn, _ => by
    have e : L = [] := List.eq_nil_of_length_eq_zero hn
    subst e
    exact ⟨List.nodup_nil, fun _ h => absurd h (by simp [dictL]), List.Perm.nil, fun _ h => absurd h (by simp [dictL])⟩
  | n + 1, L, hn, hp => by
    have ne : L ≠ [] := fun e => by
      rw [e] at hn
      cases hn
    have e : L.dropLast ++ [L.getLast ne] = L := List.dropLast_concat_getLast ne
    rw [← e] at hp
    rw [← e, dictL_snoc]
    rw [List.pairwise_append] at hp
    exact (dictL_ok at_ n L.dropLast (by rw [List.length_dropLast, hn]; rfl) hp.1).step fun i hi => hp.2.2 i hi _ (by simp)
def sum2 (l : List Nat) : Nat := (l.map fun (i : Nat) => 2 ^ i).sum
theorem sum2_perm {a b : List Nat} (h : a.Perm b) : sum2 a = sum2 b := by
  unfold sum2
  induction h with
  | nil => rfl
  | cons x _ ih =>
    rw [List.map_cons, List.map_cons, List.sum_cons, List.sum_cons, ih]
  | swap x y l =>
    simp only [List.map_cons, List.sum_cons]
    omega
  | trans _ _ h1 h2 => exact h1.trans h2
theorem sum2_snoc (l : List Nat) (i : Nat) : sum2 (l ++ [i]) = sum2 l + 2 ^ i := by
  unfold sum2
  rw [List.map_append, List.sum_append]
  simp
theorem sum_if (c : Nat → Bool) : ∀ l : List Nat, (l.map fun i => if c i = true then 2 ^ i else 0).sum = sum2 (l.filter c)
  | [] => rfl
  | i :: l => by
    have ih := sum_if c l
    unfold sum2 at ih ⊢
    rw [List.map_cons, List.sum_cons, ih, List.filter_cons]
    by_cases h : c i = true
    · rw [if_pos h, if_pos h, List.map_cons, List.sum_cons]
    · rw [if_neg h, if_neg h, Nat.zero_add]
theorem lanesL_sorted (mask : Int) (at_ : List Int) (n : Int) : (lanesL mask at_ n).Pairwise (· < ·) := List.Pairwise.filter _ List.pairwise_lt_range
theorem puts_is {mask : Int} {at_ : List Int} (ha : NN at_) (n i : Nat) : Rc04.puts n (at_.map Int.toNat) mask.toNat i = (ch mask i && decide (ix at_ i < (n : Int))) := by
  unfold Rc04.puts ch
  rw [lane_toNat ha]
  congr 1
  have := ha.ix (i : Int)
  exact decide_eq_decide.mpr (by omega)
theorem stay_is {mask : Int} {at_ : List Int} (ha : NN at_) (n : Nat) : Rc04.stay n (at_.map Int.toNat) mask.toNat = sum2 ((dictL at_ (lanesL mask at_ n)).map (·.2)) := by
  rw [sum2_perm (dictL_ok at_ _ (lanesL mask at_ n) rfl (lanesL_sorted ..)).perm]
  unfold Rc04.stay
  rw [sum_if fun i => Rc04.puts n (at_.map Int.toNat) mask.toNat i && (List.range 16).all fun j => !(decide (i < j) && (Rc04.puts n (at_.map Int.toNat) mask.toNat j && Rc04.lane (at_.map Int.toNat) j == Rc04.lane (at_.map Int.toNat) i))]
  congr 1
  have e : (lanesL mask at_ n).filter (lastIn at_ (lanesL mask at_ n)) = (List.range 16).filter fun (i : Nat) => lastIn at_ (lanesL mask at_ n) i && (ch mask i && decide (ix at_ (i : Int) < (n : Int))) := by
    show List.filter _ (List.filter _ _) = _
    rw [List.filter_filter]
  rw [e]
  refine List.filter_congr fun i hi => ?_
  rw [Bool.and_comm, puts_is ha]
  congr 1
  rw [Bool.eq_iff_iff]
  unfold lastIn
  rw [List.all_eq_true, List.all_eq_true]
  have hl : ∀ j : Nat, (Rc04.lane (at_.map Int.toNat) j == Rc04.lane (at_.map Int.toNat) i) = decide (ix at_ j = ix at_ i) := fun j => by
    have h1 := ha.ix (j : Int)
    have h2 := ha.ix (i : Int)
    rw [lane_toNat ha, lane_toNat ha, Bool.eq_iff_iff, beq_iff_eq, decide_eq_true_eq]
    omega
  constructor
  · intro h j hj
    obtain ⟨h1, h2, h3⟩ := mem_lanesL.mp hj
    have q := h j (List.mem_range.mpr h1)
    rw [puts_is ha, h2, decide_eq_true h3, hl] at q
    simpa using q
  · intro h j hj
    rw [puts_is ha, hl]
    by_cases c : (ch mask j && decide (ix at_ j < (n : Int))) = true
    · rw [c]
      rw [Bool.and_eq_true, decide_eq_true_eq] at c
      have q := h j (mem_lanesL.mpr ⟨List.mem_range.mp hj, c⟩)
      simpa using q
    · rw [Bool.eq_false_iff.mpr c]
      simp
def put16M (mask : Int) (t at_ v : List Int) : List Int := ((sum2 ((dictL at_ (lanesL mask at_ t.length)).map (·.2)) : Nat) : Int) :: putL jLast t (pairsL at_ v (lanesL mask at_ t.length))
theorem put16_is {mask : Int} {t at_ v : List Int} (ht : NN t) (ha : NN at_) (hv : NN v) : PyRc04.put16 mask t at_ v = put16M mask t at_ v := by
  have e : ∃ b, Rc04Neutral.callOf (7 :: ((t.length : Int) :: (t ++ ((t.length : Int) :: ((at_.length : Int) :: (at_ ++ ((v.length : Int) :: (v ++ [mask])))))))) = some (.put16 (t.map Int.toNat) (at_.map Int.toNat) (v.map Int.toNat) mask.toNat, b) := by
    unfold Rc04Neutral.callOf
    simp [list_app]
  obtain ⟨b, e⟩ := e
  unfold PyRc04.put16 Rc04Neutral.f
  simp only [List.cons_append, List.nil_append, List.append_assoc]
  rw [e]
  show ((Rc04.stay (t.map Int.toNat).length (at_.map Int.toNat) mask.toNat : Nat) : Int) :: (Rc04.put16 (t.map Int.toNat) (at_.map Int.toNat) (v.map Int.toNat) mask.toNat).map (fun (x : Nat) => (x : Int)) = put16M mask t at_ v
  unfold put16M
  rw [List.length_map, stay_is ha]
  refine congrArg _ ?_
  unfold Rc04.put16
  rw [List.length_map]
  have e2 : ((List.range 16).filter fun i => Rc04.puts t.length (at_.map Int.toNat) mask.toNat i) = lanesL mask at_ t.length := List.filter_congr fun i _ => puts_is ha _ _
  rw [e2]
  have e3 : ((lanesL mask at_ t.length).map fun i => (Rc04.lane (at_.map Int.toNat) i, Rc04.lane (v.map Int.toNat) i)) = (pairsL at_ v (lanesL mask at_ t.length)).map fun q => (q.1.toNat, q.2.toNat) := by
    unfold pairsL
    rw [List.map_map]
    refine List.map_congr_left fun i _ => ?_
    rw [lane_toNat ha, lane_toNat hv]
    rfl
  rw [e3]
  refine put_all _ _ jLast_ok _ _ ht fun q hq => ?_
  unfold pairsL at hq
  obtain ⟨i, hi, rfl⟩ := List.mem_map.mp hq
  exact ⟨ha.ix _, (mem_lanesL.mp hi).2.2, hv.ix _⟩
end Pl
namespace Wk
open PySem PySem.Spec PyProof.Rows L2
open PySem.W (Codec)
def topS (i : Nat) : Stmt := PySem.Challenge.pw_placelists_s08_put16.main.body.getD i (.Pass ⟨0, 0, 0, 0⟩)
abbrev sChosen : Stmt := topS 2
abbrev sLanes : Stmt := topS 3
abbrev sLput : Stmt := topS 5
abbrev sTop : Stmt := topS 7
/-! ### the heap: helpers -/
theorem same_upd {H : Hp} {p : Addr} {o : HO} (h : H p = none) : Same H (upd H p o) := fun b x e => by
  rw [upd_ne (ne_of_none e h)]
  exact e
/-- an object new since H stands changed: H is as it was -/
theorem same_put {H H1 : Hp} {p : Addr} {o : HO} (s : Same H H1) (h : H p = none) : Same H (upd H1 p o) := fun b x e => by
  rw [upd_ne (ne_of_none e h)]
  exact s _ _ e
theorem line_le {n : Nat} (h : n ≤ 1048576) : n ≤ sizeLine := Nat.le_trans h (by decide)
theorem line_lt {n : Nat} (h : n < 1048576) : n < sizeLine := Nat.lt_of_lt_of_le h (by decide)
theorem if_true_of {c : Bool} {A B : Prop} (hc : c = true) (h : A) : if c = true then A else B := by
  rw [if_pos hc]
  exact h
theorem if_false_of {c : Bool} {A B : Prop} (hc : c = false) (h : B) : if c = true then A else B := by
  rw [hc, if_neg Bool.false_ne_true]
  exact h
theorem ints_get {ns : List Int} {i : Nat} {y : V} (h : (ns.map V.int)[i]? = some y) : ∃ z, ns[i]? = some z ∧ y = V.int z := by
  rw [List.getElem?_map] at h
  cases e : ns[i]? with
  | none =>
    rw [e] at h
    cases h
  | some z =>
    rw [e] at h
    exact ⟨z, rfl, (Option.some.inj h).symm⟩
theorem ints_at {ns : List Int} {i : Nat} {z : Int} (h : ns[i]? = some z) : (ns.map V.int)[i]? = some (V.int z) := by
  rw [List.getElem?_map, h]
  rfl
theorem ints_set (ns : List Int) (i : Nat) (z : Int) : (ns.map V.int).set i (V.int z) = (ns.set i z).map V.int := by
  rw [List.map_set]
/-- the item at a place that is not negative -/
theorem at_ix {ns : List Int} {p : Int} (h0 : 0 ≤ p) (h1 : p < (ns.length : Int)) : atI (ns.map V.int) p = some (V.int (Pl.ix ns p)) := by
  refine at_of (j := p.toNat) (Int.toNat_of_nonneg h0).symm ?_
  refine ints_at ?_
  have hl : p.toNat < ns.length := by omega
  unfold Pl.ix
  rw [List.getD_eq_getElem?_getD, List.getElem?_eq_getElem hl]
  rfl
/-- a comprehension without a test goes on -/
theorem yes_if {σ : L2.St} {H : Hp} {A B : Hp → Prop} (h : A H) : tYes σ H fun b H3 => if b = true then A H3 else B H3 := by
  show if true = true then A H else B H
  rw [if_pos rfl]
  exact h
/-! ### is_chosen, chosen_lanes -/
theorem ch_is {mask : Int} (h : 0 ≤ mask) (i : Nat) : decide (V.int (Builtin.bitAnd (mask / 2 ^ i) 1) = V.int 1) = Pl.ch mask i := by
  have e : mask / 2 ^ i = ((mask.toNat / 2 ^ i : Nat) : Int) := by
    rw [Int.natCast_ediv, Int.natCast_pow, Int.toNat_of_nonneg h]
    rfl
  unfold Pl.ch Rc04.chosen
  refine decide_eq_decide.mpr ⟨fun z => ?_, fun z => ?_⟩
  · have z2 := V.int.inj z
    rw [bitAnd_m1, e] at z2
    omega
  · rw [bitAnd_m1, e]
    exact congrArg V.int (by omega)
theorem scChosen : FnScope ["mask", "lane"] ["mask", "lane"] (defScope sChosen) := ⟨rfl, rfl, rfl, by decide +kernel, rfl, by decide +kernel, by decide +kernel⟩
def spChosen : Sp := fun vs H Q _ => ∃ (mask lane : Int), vs = [.int mask, .int lane] ∧ 0 ≤ mask ∧ 0 ≤ lane ∧ Q (.bl (Pl.ch mask lane.toNat)) H
theorem ok_chosen {P : Program} {w : World} {K : PySem.W.Frag} {mg : Str → Option Value} {base : Heap} {f : Addr} {fd : FuncData} (F : Fun K "is_chosen" "is_chosen" sChosen f fd) : FnOk P w K mg base CX0 1 f fd ["mask", "lane"] spChosen := by
  refine F.ok scChosen (fun vs H Q E h => ?_) (fun cdv A outer s H vs Q E hr h => ?_)
  · obtain ⟨mask, lane, rfl, _⟩ := h
    rfl
  · obtain ⟨mask, lane, rfl, hm, hl, q⟩ := h
    refine ⟨_, pss_one (ps_ret (pe_cmpR op_eq (pe_op op_and (pe_op op_shr (pv 0) (pv 1)) pe_int) pe_int (nomark _))), ?_⟩
    refine ⟨_, rfl, _, rfl, _, _, rfl, rfl, hl, _, _, rfl, rfl, rfl, ?_⟩
    rw [ch_is hm]
    exact q
theorem scLanes : FnScope ["mask", "places", "many", "lane"] ["mask", "places", "many"] (defScope sLanes) := ⟨rfl, rfl, rfl, by decide +kernel, rfl, by decide +kernel, by decide +kernel⟩
def lanesV (L : List Nat) : List V := L.map fun (j : Nat) => V.int (j : Int)
def spLanes (K : PySem.W.Frag) : Sp := fun vs H Q _ => ∃ (b : Addr) (mask n : Int) (ps : List Int), vs = [.int mask, .ref b, .int n] ∧ SqL K H b (ps.map V.int) ∧ ps.length = 16 ∧ 0 ≤ mask ∧
  ∀ H' p, Same H H' → H p = none → H' p = some (.lst (lanesV (Pl.lanesL mask ps n))) → Q (.ref p) H'
theorem ok_lanes {P : Program} {w : World} {K : PySem.W.Frag} {mg : Str → Option Value} {base : Heap} {f fC : Addr} {fd fdC : FuncData} {y : Tok} (F : Fun K "chosen_lanes" "chosen_lanes" sLanes f fd) (FC : Fun K "is_chosen" "is_chosen" sChosen fC fdC) (bC : Binds K fdC ["mask", "lane"] []) (gC : mg "is_chosen" = some (.ref fC)) (mr : mg "range" = none) (gL : mg "LANES" = some (.int 16 y)) :
    FnOk P w K mg base CX0 2 f fd ["mask", "places", "many"] (spLanes K) := by
  have GC : FnOk P w K mg base CX0 1 fC fdC ["mask", "lane"] spChosen := ok_chosen FC
  refine F.ok scLanes (fun vs H Q E h => ?_) (fun cdv A outer s H vs Q E hr h => ?_)
  · obtain ⟨b, mask, n, ps, rfl, _⟩ := h
    rfl
  · obtain ⟨b, mask, n, ps, rfl, hS, hlp, hm, q⟩ := h
    refine ⟨_, pss_one (ps_ret (pe_lc (own := [("lane", 3)]) (g := gName 3) rfl scLanes.nd (pi_range1 (by rfl) mr (pa_cons (pe_glob (v := V.int 16) (by rfl) gL ⟨_, rfl⟩) pa_nil)) (blkOk_by (own := [("lane", 3)]) (N := ["mask", "places", "many", "lane"]) (sc := defScope sLanes) (by decide +kernel)) (fun _ _ _ _ _ => pg_name (i := 3) scLanes.nd rfl (Or.inl rfl))
      (fun _ _ _ _ _ => pts_one (PW.pt (pw_and (pt_val (pe_call GC hr (by rfl) gC FC.kp bC .nil pass0 (pa_cons (pv 0) (pa_cons (pv 3) pa_nil)))) (pw_and1 (pt_cmpR op_lt (pe_ix (r := rIxL K) ix_list (pv 1) (pv 3) (fun _ _ => rfl)) (pv 2) (nomark _))))))
      (fun _ _ _ _ _ => pv 3))), ?_⟩
    refine ⟨_, rfl, by decide, by decide, fun D nD => ?_⟩
    refine lc_range (lo := 0) (n := 16) (fun i H' => Same H H' ∧ H' D = some (.lst (lanesV ((List.range i).filter fun (j : Nat) => Pl.ch mask j && decide (Pl.ix ps (j : Int) < n)))))
      ⟨same_upd nD, upd_same⟩ ?_ ?_
    · rintro i H' hi ⟨z1, z2⟩
      have ei : ((0 : Int) + (i : Int)) = (i : Int) := Int.zero_add _
      rw [ei]
      have hr16 : List.range (i + 1) = List.range i ++ [i] := List.range_succ
      refine ⟨rfl, _, rfl, _, rfl, mask, (i : Int), rfl, hm, by omega, Pl.ch mask i, rfl, ?_⟩
      by_cases c1 : Pl.ch mask i = true
      · refine if_true_of c1 ?_
        refine ⟨_, rfl, _, rfl, b, _, _, _, rfl, rfl, z1.seq hS, at_ix (p := (i : Int)) (by omega) (by omega), _, rfl, _, _, rfl, rfl, _, rfl, ?_⟩
        by_cases c2 : Pl.ix ps (i : Int) < n
        · refine if_true_of (decide_eq_true c2) ?_
          refine ⟨_, rfl, _, z2, ?_, same_put z1 nD, ?_⟩
          · unfold lanesV
            rw [List.length_map]
            exact line_lt (Nat.lt_of_le_of_lt (List.length_filter_le _ _) (by rw [List.length_range]; omega))
          · rw [upd_same, hr16, List.filter_append]
            unfold lanesV
            rw [List.map_append, List.filter_cons, if_pos (by rw [c1, decide_eq_true c2]; rfl)]
            rfl
        · refine if_false_of (decide_eq_false c2) ⟨z1, ?_⟩
          rw [z2, hr16, List.filter_append, List.filter_cons, if_neg (by rw [decide_eq_false c2, Bool.and_false]; exact Bool.false_ne_true), List.filter_nil, List.append_nil]
      · have c1' : Pl.ch mask i = false := Bool.eq_false_iff.mpr c1
        refine if_false_of c1' ?_
        show if false = true then _ else _
        rw [if_neg Bool.false_ne_true]
        refine ⟨z1, ?_⟩
        rw [z2, hr16, List.filter_append, List.filter_cons, if_neg (by rw [c1', Bool.false_and]; exact Bool.false_ne_true), List.filter_nil, List.append_nil]
    · rintro H' ⟨z1, z2⟩
      exact q H' D z1 nD z2
/-! ### lanes_put -/
theorem lanesV_get {L : List Nat} {i : Nat} {y : V} (h : (lanesV L)[i]? = some y) : ∃ j : Nat, L[i]? = some j ∧ y = V.int (j : Int) := by
  unfold lanesV at h
  rw [List.getElem?_map] at h
  cases e : L[i]? with
  | none =>
    rw [e] at h
    cases h
  | some z =>
    rw [e] at h
    exact ⟨z, rfl, (Option.some.inj h).symm⟩
/-- the dict's pairs as the heap has them -/
def dV (d : List (Int × Nat)) : List (Key × V) := d.map fun kv => ((Sum.inl kv.1 : Key), V.int (kv.2 : Int))
theorem dV_put (d : List (Int × Nat)) (p : Int) (i : Nat) : putK (dV d) (Sum.inl p) (V.int (i : Int)) = dV (Pl.putD d p i) := by
  have e : ((dV d).any fun kv => decide (kv.1 = Sum.inl p)) = d.any fun kv => decide (kv.1 = p) := by
    unfold dV
    rw [List.any_map]
    congr 1
    funext kv
    show decide ((Sum.inl kv.1 : Key) = Sum.inl p) = decide (kv.1 = p)
    exact decide_eq_decide.mpr ⟨fun z => Sum.inl.inj z, fun z => by rw [z]⟩
  unfold putK Pl.putD
  rw [e]
  by_cases c : (d.any fun kv => decide (kv.1 = p)) = true
  · rw [if_pos c, if_pos c]
    unfold dV
    rw [List.map_map, List.map_map]
    refine List.map_congr_left fun kv _ => ?_
    show (if (Sum.inl kv.1 : Key) = Sum.inl p then ((Sum.inl kv.1 : Key), V.int (i : Int)) else ((Sum.inl kv.1 : Key), V.int (kv.2 : Int))) = _
    by_cases h : kv.1 = p
    · rw [if_pos (by rw [h])]
      show _ = ((Sum.inl (if kv.1 = p then (kv.1, i) else kv).1 : Key), V.int ((if kv.1 = p then (kv.1, i) else kv).2 : Int))
      rw [if_pos h]
    · rw [if_neg fun z => h (Sum.inl.inj z)]
      show _ = ((Sum.inl (if kv.1 = p then (kv.1, i) else kv).1 : Key), V.int ((if kv.1 = p then (kv.1, i) else kv).2 : Int))
      rw [if_neg h]
  · rw [if_neg c, if_neg c]
    unfold dV
    rw [List.map_append]
    rfl
theorem dV_val : ∀ {d : List (Int × Nat)}, (d.map (·.1)).Nodup → ∀ kv, kv ∈ d → valV (dV d) (Sum.inl kv.1) = some (V.int (kv.2 : Int))
  | [], _, kv, h => absurd h (by simp)
  | x :: d, nd, kv, h => by
    rw [List.map_cons, List.nodup_cons] at nd
    rcases List.mem_cons.mp h with e | m
    · subst e
      exact valV_pos (p := ((Sum.inl kv.1 : Key), V.int (kv.2 : Int))) (r := dV d) rfl
    · have ne : ¬ (Sum.inl x.1 : Key) = Sum.inl kv.1 := fun z => nd.1 (by
        rw [Sum.inl.inj z]
        exact List.mem_map_of_mem (f := (·.1)) m)
      exact (valV_neg (p := ((Sum.inl x.1 : Key), V.int (x.2 : Int))) (r := dV d) ne).trans (dV_val nd.2 kv m)
theorem dV_get {d : List (Int × Nat)} {i : Nat} {k : Key} {v : V} (h : (dV d)[i]? = some (k, v)) : ∃ kv, d[i]? = some kv ∧ k = Sum.inl kv.1 ∧ v = V.int (kv.2 : Int) := by
  unfold dV at h
  rw [List.getElem?_map] at h
  cases e : d[i]? with
  | none =>
    rw [e] at h
    cases h
  | some z =>
    rw [e] at h
    have h2 := Option.some.inj h
    exact ⟨z, rfl, (congrArg Prod.fst h2).symm, (congrArg Prod.snd h2).symm⟩
theorem pairs_snoc (ps vs : List Int) (L : List Nat) (j : Nat) : Pl.pairsL ps vs (L ++ [j]) = Pl.pairsL ps vs L ++ [(Pl.ix ps (j : Int), Pl.ix vs (j : Int))] := by
  unfold Pl.pairsL
  rw [List.map_append]
  rfl
theorem lanes_short (mask : Int) (ps : List Int) (n : Int) : (Pl.lanesL mask ps n).length ≤ 16 := by
  unfold Pl.lanesL
  exact Nat.le_trans (List.length_filter_le _ _) (by rw [List.length_range]; omega)
theorem dict_ok (mask : Int) (ps : List Int) (n : Int) (i : Nat) : Pl.DOk ps ((Pl.lanesL mask ps n).take i) (Pl.dictL ps ((Pl.lanesL mask ps n).take i)) :=
  Pl.dictL_ok ps _ _ rfl (List.Pairwise.sublist (List.take_sublist _ _) (Pl.lanesL_sorted mask ps n))
theorem dict_short (mask : Int) (ps : List Int) (n : Int) (i : Nat) : (dV (Pl.dictL ps ((Pl.lanesL mask ps n).take i))).length ≤ 16 := by
  have h1 := (dict_ok mask ps n i).perm.length_eq
  have h2 := lanes_short mask ps n
  have h3 := List.length_filter_le (Pl.lastIn ps ((Pl.lanesL mask ps n).take i)) ((Pl.lanesL mask ps n).take i)
  rw [List.length_map] at h1
  rw [List.length_take] at h3
  unfold dV
  rw [List.length_map]
  omega
theorem scLput : FnScope ["mask", "table", "places", "numbers", "found", "last", "lane", "stay", "place"] ["mask", "table", "places", "numbers"] (defScope sLput) := ⟨rfl, rfl, rfl, by decide +kernel, rfl, by decide +kernel, by decide +kernel⟩
def spLput (K : PySem.W.Frag) : Sp := fun xs H Q _ => ∃ (a b c : Addr) (mask : Int) (ts ps vs : List Int), xs = [.int mask, .ref a, .ref b, .ref c] ∧ SqL K H a (ts.map V.int) ∧ SqL K H b (ps.map V.int) ∧ SqL K H c (vs.map V.int) ∧ ts.length ≤ 25600 ∧ ps.length = 16 ∧ vs.length = 16 ∧ 0 ≤ mask ∧ Pl.NN ps ∧
  ∀ (H' : Hp) (p : Addr), H' p = some (.lst ((Pl.put16M mask ts ps vs).map V.int)) → Q (.ref p) H'
theorem ok_lput {P : Program} {w : World} {K : PySem.W.Frag} {mg : Str → Option Value} {base : Heap} {f fL : Addr} {fd fdL : FuncData} (F : Fun K "lanes_put" "lanes_put" sLput f fd) (FL : Fun K "chosen_lanes" "chosen_lanes" sLanes fL fdL) (bL : Binds K fdL ["mask", "places", "many"] []) (gL : mg "chosen_lanes" = some (.ref fL)) (ml : mg "len" = none) (mli : mg "list" = none)
    (GL : FnOk P w K mg base CX0 2 fL fdL ["mask", "places", "many"] (spLanes K)) : FnOk P w K mg base CX0 3 f fd ["mask", "table", "places", "numbers"] (spLput K) := by
  refine F.ok scLput (fun vs H Q E h => ?_) (fun cdv A outer s H vs Q E hr h => ?_)
  · obtain ⟨a, b, c, mask, ts, ps, vs, rfl, _⟩ := h
    rfl
  · obtain ⟨a, b, c, mask, ts, ps, vs, rfl, hT, hS, hV, hlt, hlp, hlv, hm, nn, q⟩ := h
    refine ⟨_, pss_cons (ps_set (i := 4) scLput.nd rfl (.inl rfl) (pe_callTy call_list_of (by rfl) mli (by decide +kernel) (pa_cons (pv 1) pa_nil)))
      (pss_cons (ps_set (i := 5) scLput.nd rfl (.inl rfl) pe_dnewK)
      (pss_cons (ps_for PassesOwn.never rfl (pi_list (pe_call GL hr (by rfl) gL FL.kp bL .nil pass0 (pa_cons (pv 0) (pa_cons (pv 2) (pa_cons (pe_callB call_len_seq (by rfl) ml PySem.boot_len (pa_cons (pv 1) pa_nil)) pa_nil))))) (pg_name (i := 6) scLput.nd rfl (.inl rfl))
        (pss_cons (ps_asg (pe_ix ix_list (pv 3) (pv 6) (fun _ _ => rfl)) (pg_sub (pv 4) (pe_ix ix_list (pv 2) (pv 6) (fun _ _ => rfl)) set_list))
        (pss_one (ps_dput (hu_of hr) (pv 5) (pe_ix ix_list (pv 2) (pv 6) (fun _ _ => rfl)) (pv 6) rfl))))
      (pss_cons (ps_set (i := 7) scLput.nd rfl (.inl rfl) pe_int)
      (pss_cons (ps_lock (ps_for PassesOwn.never rfl (pi_keys (pv 5)) (pg_name (i := 8) scLput.nd rfl (.inl rfl))
        (pss_one (ps_aug (i := 7) scLput.nd rfl (.inl rfl) (pe_op op_shl pe_int (pe_dget (hu_of hr) (pv 5) (pv 8) (fun _ _ => rfl))) ip_add))))
      (pss_one (ps_ret (pe_op op_cat (pe_lst (pa_cons (pv 7) pa_nil)) (pv 4)))))))), ?_⟩
    have hl2 : ((ts.map V.int).length : Int) = (ts.length : Int) := by rw [List.length_map]
    -- found = list(table)
    refine ⟨_, rfl, a, _, rfl, .inl hT, fun g ng => ?_⟩
    have s1 : Same H (upd H g (.lst (ts.map V.int))) := same_upd ng
    -- last = {}
    intro d nd
    have nd0 : H d = none := s1.free nd
    have ngd : g ≠ d := ne_of_none upd_same nd
    have s2 : Same H (upd (upd H g (.lst (ts.map V.int))) d (.dK [])) := same_put s1 nd0
    have eg2 : (upd (upd H g (.lst (ts.map V.int))) d (.dK [])) g = some (.lst (ts.map V.int)) := by
      rw [upd_ne ngd, upd_same]
    -- chosen_lanes(mask, places, len(table))
    refine ⟨_, rfl, _, rfl, _, rfl, a, _, rfl, .inl (s2.seq hT), b, mask, _, ps, rfl, s2.seq hS, hlp, hm, fun H2 l s3 nl el => ?_⟩
    rw [hl2] at el
    have ngl : g ≠ l := ne_of_none eg2 nl
    have ndl : d ≠ l := ne_of_none upd_same nl
    have s12 : Same H H2 := s2.trans s3
    refine ⟨l, rfl, ⟨_, SqL.of el⟩, for_list (K := K) (a := l) (xs := lanesV (Pl.lanesL mask ps (ts.length : Int))) (fun i σ H' => ∃ v : Option V, σ = [some (.int mask), some (.ref a), some (.ref b), some (.ref c), some (.ref g), some (.ref d), v, none, none] ∧ Same H H' ∧ H' l = some (.lst (lanesV (Pl.lanesL mask ps (ts.length : Int)))) ∧
        H' g = some (.lst ((Pl.putL Pl.jLast ts (Pl.pairsL ps vs ((Pl.lanesL mask ps (ts.length : Int)).take i))).map V.int)) ∧ H' d = some (.dK (dV (Pl.dictL ps ((Pl.lanesL mask ps (ts.length : Int)).take i)))))
      ⟨none, rfl, s12, el, s3 _ _ eg2, s3 _ _ upd_same⟩ (fun i σ H' _ ⟨_, _, _, e5, _, _⟩ => SqL.of e5) ?_ ?_⟩
    · rintro i y σ H' hi ⟨v0, rfl, s5, e5, g5, d5⟩
      obtain ⟨j, hj, rfl⟩ := lanesV_get hi
      obtain ⟨j1, j2, j3⟩ := Pl.mem_lanesL.mp (List.mem_of_getElem? hj)
      have hln : (Pl.putL Pl.jLast ts (Pl.pairsL ps vs ((Pl.lanesL mask ps (ts.length : Int)).take i))).length = ts.length := Pl.putL_len _ _ _
      have hpj : ps[j]? = some (Pl.ix ps (j : Int)) := Pl.ix_at (by omega)
      have hvj : vs[j]? = some (Pl.ix vs (j : Int)) := Pl.ix_at (by omega)
      have hp0 : 0 ≤ Pl.ix ps (j : Int) := nn _ (List.mem_of_getElem? hpj)
      -- found[places[lane]] = numbers[lane]
      refine ⟨_, rfl, _, rfl, c, _, _, _, rfl, rfl, s5.seq hV, at_of (j := j) rfl (ints_at hvj), _, rfl, _, rfl, _, rfl, b, _, _, _, rfl, rfl, s5.seq hS, at_of (j := j) rfl (ints_at hpj), g, _, _, (Pl.ix ps (j : Int)).toNat, rfl, rfl, g5, ?_, ?_⟩
      · unfold ixN
        rw [if_pos hp0, if_pos (by rw [List.length_map, hln]; exact j3)]
      · have s6 : Same H (upd H' g (.lst (((Pl.putL Pl.jLast ts (Pl.pairsL ps vs ((Pl.lanesL mask ps (ts.length : Int)).take i))).map V.int).set (Pl.ix ps (j : Int)).toNat (V.int (Pl.ix vs (j : Int)))))) := same_put s5 ng
        -- last[places[lane]] = lane
        refine ⟨_, rfl, _, rfl, _, rfl, _, rfl, b, _, _, _, rfl, rfl, s6.seq hS, at_of (j := j) rfl (ints_at hpj), d, _, rfl, DPut.k (k := Sum.inl (Pl.ix ps (j : Int))) (by rw [upd_ne (fun z => ngd z.symm)]; exact d5) (line_lt (Nat.lt_of_le_of_lt (dict_short mask ps _ i) (by omega))), ?_⟩
        refine ⟨_, rfl, same_put s6 nd0, ?_, ?_, ?_⟩
        · rw [upd_ne (fun z => ndl z.symm), upd_ne (fun z => ngl z.symm)]
          exact e5
        · rw [upd_ne ngd, upd_same, Pl.take_succ_at hj, pairs_snoc, Pl.putL_snoc]
          exact congrArg (fun z => some (HO.lst z)) (ints_set _ _ _)
        · rw [upd_same, Pl.take_succ_at hj, Pl.dictL_snoc]
          exact congrArg (fun z => some (HO.dK z)) (dV_put _ _ _)
    · rintro σ H' ⟨v0, rfl, s5, e5, g5, d5⟩
      have e : (lanesV (Pl.lanesL mask ps (ts.length : Int))).length = (Pl.lanesL mask ps (ts.length : Int)).length := List.length_map ..
      rw [e, List.take_length] at g5 d5
      have ok := Pl.dictL_ok ps _ (Pl.lanesL mask ps (ts.length : Int)) rfl (Pl.lanesL_sorted mask ps _)
      -- for place in last
      refine ⟨d, _, d5, trivial, fun od => ?_⟩
      refine ⟨_, rfl, d, od, rfl, .inl ⟨_, upd_same, for_it walk_keys (fun i σ H'' => ∃ v : Option V, σ = [some (.int mask), some (.ref a), some (.ref b), some (.ref c), some (.ref g), some (.ref d), v0, some (.int ((Pl.sum2 (((Pl.dictL ps (Pl.lanesL mask ps (ts.length : Int))).map (·.2)).take i) : Nat) : Int)), v] ∧ H'' = upd H' d (.frz od (.dK (dV (Pl.dictL ps (Pl.lanesL mask ps (ts.length : Int)))))))
        ⟨none, rfl, rfl⟩ (fun i σ H'' _ ⟨_, _, z⟩ => by rw [z]; exact upd_same) ?_ ?_⟩⟩
      · rintro i x σ H3 H4 hi ⟨v, rfl, rfl⟩ ⟨rfl, k, vv, hk, rfl⟩
        obtain ⟨kv, hkv, rfl, rfl⟩ := dV_get hk
        have mkv := List.mem_of_getElem? hkv
        have hlane := (Pl.mem_lanesL.mp (ok.mem kv mkv)).1
        have hs2 : ((Pl.sum2 (((Pl.dictL ps (Pl.lanesL mask ps (ts.length : Int))).map (·.2)).take (i + 1)) : Nat) : Int) = ((Pl.sum2 (((Pl.dictL ps (Pl.lanesL mask ps (ts.length : Int))).map (·.2)).take i) : Nat) : Int) + 1 * 2 ^ ((kv.2 : Int)).toNat := by
          rw [Pl.take_succ_at (x := kv.2) (by rw [List.getElem?_map, hkv]; rfl), Pl.sum2_snoc, Int.natCast_add, Int.natCast_pow, Int.one_mul, Int.toNat_natCast]
          rfl
        refine ⟨_, rfl, _, rfl, _, rfl, d, _, rfl, .inl ⟨_, Sum.inl kv.1, .inr ⟨od, upd_same⟩, rfl, (dV_val ok.nd kv mkv).symm⟩, _, _, rfl, rfl, ⟨by omega, by omega, by decide⟩, _, _, rfl, rfl, ?_⟩
        refine ⟨some (kV (Sum.inl kv.1)), ?_, rfl⟩
        rw [hs2]
        rfl
      · rintro σ H3 ⟨v, rfl, rfl⟩
        refine ⟨upd_same, ?_⟩
        have eall : ((Pl.dictL ps (Pl.lanesL mask ps (ts.length : Int))).map (·.2)).take (dV (Pl.dictL ps (Pl.lanesL mask ps (ts.length : Int)))).length = (Pl.dictL ps (Pl.lanesL mask ps (ts.length : Int))).map (·.2) := by
          have e2 : (dV (Pl.dictL ps (Pl.lanesL mask ps (ts.length : Int)))).length = ((Pl.dictL ps (Pl.lanesL mask ps (ts.length : Int))).map (·.2)).length := by
            unfold dV
            rw [List.length_map, List.length_map]
          rw [e2, List.take_length]
        rw [eall]
        have g6 : (upd (upd H' d (.frz od (.dK (dV (Pl.dictL ps (Pl.lanesL mask ps (ts.length : Int))))))) d (.dK (dV (Pl.dictL ps (Pl.lanesL mask ps (ts.length : Int)))))) g = some (.lst ((Pl.putL Pl.jLast ts (Pl.pairsL ps vs (Pl.lanesL mask ps (ts.length : Int)))).map V.int)) := by
          rw [upd_ne ngd, upd_ne ngd]
          exact g5
        -- return [stay] + found
        refine ⟨_, rfl, (by show 1 ≤ sizeLine; decide), fun l2 nl2 => ?_⟩
        have ngl2 : g ≠ l2 := ne_of_none g6 nl2
        refine ⟨_, rfl, l2, g, _, _, rfl, rfl, upd_same, (by rw [upd_ne ngl2]; exact g6), ?_, fun p np => ?_⟩
        · simp only [List.length_map, List.length_cons, List.length_nil, Pl.putL_len]
          exact line_le (by omega)
        · refine q _ p ?_
          rw [upd_same]
          unfold Pl.put16M
          rfl
/-! ### put16 -/
theorem scTop : FnScope ["mask", "t", "at", "v"] ["mask", "t", "at", "v"] (defScope sTop) := ⟨rfl, rfl, rfl, by decide +kernel, rfl, by decide +kernel, by decide +kernel⟩
def spTop (K : PySem.W.Frag) : Sp := fun xs H Q _ => ∃ (a b c : Addr) (mask : Int) (ts ps vs : List Int), xs = [.int mask, .ref a, .ref b, .ref c] ∧ SqL K H a (ts.map V.int) ∧ SqL K H b (ps.map V.int) ∧ SqL K H c (vs.map V.int) ∧ ts.length ≤ 400 ∧ ps.length = 16 ∧ vs.length = 16 ∧ 0 ≤ mask ∧ Pl.NN ts ∧ Pl.NN ps ∧ Pl.NN vs ∧
  ∀ (H' : Hp) (p : Addr), H' p = some (.lst ((PyRc04.put16 mask ts ps vs).map V.int)) → Q (.ref p) H'
theorem ok_top {P : Program} {w : World} {K : PySem.W.Frag} {mg : Str → Option Value} {base : Heap} {f f1 f2 f3 : Addr} {fd fd1 fd2 fd3 : FuncData} {y : Tok} (F : Fun K "put16" "put16" sTop f fd)
    (F1 : Fun K "is_chosen" "is_chosen" sChosen f1 fd1) (b1 : Binds K fd1 ["mask", "lane"] []) (g1 : mg "is_chosen" = some (.ref f1))
    (F2 : Fun K "chosen_lanes" "chosen_lanes" sLanes f2 fd2) (b2 : Binds K fd2 ["mask", "places", "many"] []) (g2 : mg "chosen_lanes" = some (.ref f2))
    (F3 : Fun K "lanes_put" "lanes_put" sLput f3 fd3) (b3 : Binds K fd3 ["mask", "table", "places", "numbers"] []) (g3 : mg "lanes_put" = some (.ref f3)) (ml : mg "len" = none) (mr : mg "range" = none) (mli : mg "list" = none) (gL : mg "LANES" = some (.int 16 y)) : FnOk P w K mg base CX0 4 f fd ["mask", "t", "at", "v"] (spTop K) := by
  have G3 : FnOk P w K mg base CX0 3 f3 fd3 ["mask", "table", "places", "numbers"] (spLput K) := ok_lput F3 F2 b2 g2 ml mli (ok_lanes F2 F1 b1 g1 mr gL)
  refine F.ok scTop (fun vs H Q E h => ?_) (fun cdv A outer s H vs Q E hr h => ?_)
  · obtain ⟨a, b, c, mask, ts, ps, vs, rfl, _⟩ := h
    rfl
  · obtain ⟨a, b, c, mask, ts, ps, vs, rfl, hT, hS, hV, hlt, hlp, hlv, hm, nt, np, nv, q⟩ := h
    refine ⟨_, pss_one (ps_ret (pe_call G3 hr (by rfl) g3 F3.kp b3 .nil pass0 (pa_cons (pv 0) (pa_cons (pv 1) (pa_cons (pv 2) (pa_cons (pv 3) pa_nil)))))), ?_⟩
    refine ⟨_, rfl, _, rfl, _, rfl, _, rfl, a, b, c, mask, ts, ps, vs, rfl, hT, hS, hV, by omega, hlp, hlv, hm, np, fun H' p hp => ?_⟩
    rw [← Pl.put16_is nt np nv] at hp
    exact q H' p hp
theorem top_of {K : PySem.W.Frag} {H : Hp} {Q : V → Hp → Prop} {E : XK} {a b c : Addr} {mask : Int} {ts ps vs : List Int} (pm : 0 ≤ mask ∧ mask ≤ 65535) (pt : 0 ≤ ts.length ∧ ts.length ≤ 400 ∧ Pl.NN ts) (pp : 16 ≤ ps.length ∧ ps.length ≤ 16 ∧ Pl.NN ps) (pw : 16 ≤ vs.length ∧ vs.length ≤ 16 ∧ Pl.NN vs) (st : SqL K H a (ts.map V.int)) (ss : SqL K H b (ps.map V.int)) (sv : SqL K H c (vs.map V.int))
    (_ : PyRc04.put16_asked mask ts ps vs = true) (k : ∀ (H' : Hp) (p : Addr), H' p = some (.lst ((PyRc04.put16 mask ts ps vs).map V.int)) → Q (.ref p) H') : spTop K [.int mask, .ref a, .ref b, .ref c] H Q E :=
  ⟨a, b, c, mask, ts, ps, vs, rfl, st, ss, sv, pt.2.1, by omega, by omega, pm.1, pt.2.2, pp.2.2, pw.2.2, k⟩
/-! ### reading the request -/
theorem and_two {a b : Bool} (h : (a && b) = true) : a = true ∧ b = true := Bool.and_eq_true_iff.mp h
theorem list_in {least most : Nat} {hi : Int} {l : List Int} (h : (Codec.inLen least most l && l.all (Codec.inInt 0 hi)) = true) : least ≤ l.length ∧ l.length ≤ most ∧ Pl.NN l := by
  have h1 := Codec.inNat_iff.mp (and_two h).1
  refine ⟨h1.1, h1.2, fun x hx => ?_⟩
  exact (Codec.inInt_iff.mp (List.all_eq_true.mp (and_two h).2 x hx)).1
theorem dw_cons {K : PySem.W.Frag} {H : Hp} {xs : List V} {d : PySem.W.WData} {ds : List PySem.W.WData} (x : DwAll K H xs (d :: ds)) : ∃ v vs, xs = v :: vs ∧ Dw K H v d ∧ DwAll K H vs ds := by
  cases x with
  | cons a b => exact ⟨_, _, rfl, a, b⟩
theorem dw_list {K : PySem.W.Frag} {H : Hp} {v : V} {ns : List Int} (x : Dw K H v (.list (ns.map PySem.W.WData.int))) : ∃ a, v = .ref a ∧ SqL K H a (ns.map V.int) := by
  cases x with
  | lst hs ha =>
    have e := ints_dw ns _ ha
    subst e
    exact ⟨_, rfl, hs⟩
theorem dw_int {K : PySem.W.Frag} {H : Hp} {v : V} {i : Int} (x : Dw K H v (.int i)) : v = .int i := by
  cases x
  rfl
/-! ### the end: what the top has written -/
theorem all_mk {P : Program} {w : World} {K : PySem.W.Frag} {h : Heap} {mg : Str → Option Value} {fa f1 f2 f3 f4 : Addr} (X : K.In h) (G : h.Ns mainGlobals mg) (hfa : mg "put16" = some (.ref fa))
    {od1 an1 od2 an2 od3 an3 od4 an4 : Option Addr} {sl1 sl2 sl3 sl4 : Array (Option Value)} {oc1 kV1 dc1 pm1 cd1 ct1 oc2 kV2 dc2 pm2 cd2 ct2 oc3 kV3 dc3 pm3 cd3 ct3 oc4 kV4 dc4 pm4 cd4 ct4 : Value}
    (a1 : PySem.W.nsIn K mainGlobals "is_chosen" = some (some (.ref f1))) (l1 : K.lookup f1 = some ⟨oc1, od1, .func (PySem.W.fnOf "is_chosen" "is_chosen" (defArgs sChosen) (defBody sChosen) (defScope sChosen) .none kV1 dc1 pm1 an1 cd1 ct1), sl1⟩) (c1 : PySem.W.codeIn K cd1 "is_chosen" = true) (k1 : PySem.W.keepIn K (.ref f1) = true)
    (a2 : PySem.W.nsIn K mainGlobals "chosen_lanes" = some (some (.ref f2))) (l2 : K.lookup f2 = some ⟨oc2, od2, .func (PySem.W.fnOf "chosen_lanes" "chosen_lanes" (defArgs sLanes) (defBody sLanes) (defScope sLanes) .none kV2 dc2 pm2 an2 cd2 ct2), sl2⟩) (c2 : PySem.W.codeIn K cd2 "chosen_lanes" = true) (k2 : PySem.W.keepIn K (.ref f2) = true)
    (a3 : PySem.W.nsIn K mainGlobals "lanes_put" = some (some (.ref f3))) (l3 : K.lookup f3 = some ⟨oc3, od3, .func (PySem.W.fnOf "lanes_put" "lanes_put" (defArgs sLput) (defBody sLput) (defScope sLput) .none kV3 dc3 pm3 an3 cd3 ct3), sl3⟩) (c3 : PySem.W.codeIn K cd3 "lanes_put" = true) (k3 : PySem.W.keepIn K (.ref f3) = true)
    (a4 : PySem.W.nsIn K mainGlobals "put16" = some (some (.ref f4))) (l4 : K.lookup f4 = some ⟨oc4, od4, .func (PySem.W.fnOf "put16" "put16" (defArgs sTop) (defBody sTop) (defScope sTop) .none kV4 dc4 pm4 an4 cd4 ct4), sl4⟩) (c4 : PySem.W.codeIn K cd4 "put16" = true) (k4 : PySem.W.keepIn K (.ref f4) = true)
    (z1 : PySem.W.nsIn K mainGlobals "len" = some none)
    (z2 : PySem.W.nsIn K mainGlobals "range" = some none)
    (z3 : PySem.W.nsIn K mainGlobals "list" = some none)
    {y1 : Tok} (g1 : PySem.W.nsIn K mainGlobals "LANES" = some (some (.int 16 y1)))
    : ∃ fd : FuncData, (∀ (s : Shared) (us : List Value), us.length = (["mask", "t", "at", "v"] : List Str).length → BindsTo s fd ⟨us, []⟩ ((["mask", "t", "at", "v"] : List Str).zip us)) ∧ ∀ base : Heap, K.In base → base.Ns mainGlobals mg → FnOk P w K mg base CX0 4 fa fd ["mask", "t", "at", "v"] (spTop K) := by
  have e := hfa.symm.trans (PySem.W.mg_of X G a4)
  cases e
  have F1 := fun_mk (st := sChosen) l1 c1 k1
  have F2 := fun_mk (st := sLanes) l2 c2 k2
  have F3 := fun_mk (st := sLput) l3 c3 k3
  have F4 := fun_mk (st := sTop) l4 c4 k4
  have b1 := F1.binds (ps := ["mask", "lane"]) fun _ _ _ _ _ _ us hl => match us, hl with | [_, _], _ => rfl
  have b2 := F2.binds (ps := ["mask", "places", "many"]) fun _ _ _ _ _ _ us hl => match us, hl with | [_, _, _], _ => rfl
  have b3 := F3.binds (ps := ["mask", "table", "places", "numbers"]) fun _ _ _ _ _ _ us hl => match us, hl with | [_, _, _, _], _ => rfl
  exact ⟨PySem.W.fnOf "put16" "put16" (defArgs sTop) (defBody sTop) (defScope sTop) .none kV4 dc4 pm4 an4 cd4 ct4, fun s us hu => match us, hu with | [_, _, _, _], _ => .of_eq rfl, fun base _ _ => ok_top F4 F1 b1 (PySem.W.mg_of X G a1) F2 b2 (PySem.W.mg_of X G a2) F3 b3 (PySem.W.mg_of X G a3) (PySem.W.mg_none_of X G z1) (PySem.W.mg_none_of X G z2) (PySem.W.mg_none_of X G z3) (PySem.W.mg_of X G g1)⟩
end Wk
open PySem PySem.W PyProof.Rows
set_option maxRecDepth 100000 in
set_option maxHeartbeats 0 in
theorem PySem.Challenge.cw_placelists_s08_put16_holds : PySem.Challenge.rw_placelists_s08_put16.Holds := by
  w_on; k_headS; (case hw => exact ⟨[.int 0, .list [], .list (List.replicate 16 (.int 0)), .list (List.replicate 16 (.int 0))], by decide +kernel, by decide +kernel⟩)
  k_fillS
  refine L2.walk_specK (r := PySem.Challenge.rw_placelists_s08_put16) (k := 4) (CX := L2.CX0) (ps := ["mask", "t", "at", "v"]) (sp := Wk.spTop) (by decide +kernel) rfl rfl ⟨rfl, by decide, by decide⟩ (fun w h Y => PySem.W.kIn_of Y) ?F ?S (fun _ _ _ _ z => z)
  case F =>
    intro w mg fa h Y KX G hmg
    refine' Wk.all_mk KX G hmg ?a1 ?l1 ?c1 ?k1 ?a2 ?l2 ?c2 ?k2 ?a3 ?l3 ?c3 ?k3 ?a4 ?l4 ?c4 ?k4 ?z1 ?z2 ?z3 ?g1
    (case a1 => k_is)
    (case l1 => k_is)
    (case c1 => k_is)
    (case k1 => k_is)
    (case a2 => k_is)
    (case l2 => k_is)
    (case c2 => k_is)
    (case k2 => k_is)
    (case a3 => k_is)
    (case l3 => k_is)
    (case c3 => k_is)
    (case k3 => k_is)
    (case a4 => k_is)
    (case l4 => k_is)
    (case c4 => k_is)
    (case k4 => k_is)
    (case z1 => k_is)
    (case z2 => k_is)
    (case z3 => k_is)
    (case g1 => k_is)
  case S =>
    intro K H xs a hO hwi hask hx
    have q : (Codec.inInt 0 65535 a.1 && ((Codec.inLen 0 400 a.2.1 && a.2.1.all (Codec.inInt 0 4294967295)) && ((Codec.inLen 16 16 a.2.2.1 && a.2.2.1.all (Codec.inInt 0 4294967295)) && ((Codec.inLen 16 16 a.2.2.2.1 && a.2.2.2.1.all (Codec.inInt 0 4294967295)) && true)))) = true := hwi
    have q0 := (Wk.and_two q).1
    have r0 := (Wk.and_two q).2
    have q1 := (Wk.and_two r0).1
    have r1 := (Wk.and_two r0).2
    have q2 := (Wk.and_two r1).1
    have r2 := (Wk.and_two r1).2
    have q3 := (Wk.and_two r2).1
    have r3 := (Wk.and_two r2).2
    have p0 := Codec.inInt_iff.mp q0
    have p1 := Wk.list_in q1
    have p2 := Wk.list_in q2
    have p3 := Wk.list_in q3
    obtain ⟨v0, vs0, rfl, h0, hx0⟩ := Wk.dw_cons hx
    obtain rfl := Wk.dw_int h0
    obtain ⟨v1, vs1, rfl, h1, hx1⟩ := Wk.dw_cons hx0
    obtain ⟨a1, rfl, s1⟩ := Wk.dw_list h1
    obtain ⟨v2, vs2, rfl, h2, hx2⟩ := Wk.dw_cons hx1
    obtain ⟨a2, rfl, s2⟩ := Wk.dw_list h2
    obtain ⟨v3, vs3, rfl, h3, hx3⟩ := Wk.dw_cons hx2
    obtain ⟨a3, rfl, s3⟩ := Wk.dw_list h3
    cases hx3
    exact Wk.top_of p0 p1 p2 p3 s1 s2 s3 hask fun H' p hp => .lst (L2.SqL.of hp) (L2.dw_ints _)
#print axioms PySem.Challenge.cw_placelists_s08_put16_holds
