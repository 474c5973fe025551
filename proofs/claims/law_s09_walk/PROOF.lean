import PyProof.Rows.All
import Wide.All
import OpenK.AllK
import Wide.FinOn
import Open.SpecLaws
import KE.OsHead
import KE.OsGo
import HandS.ForSpec
import HandS.ForMost
import PySem.Challenge.RW_placelists_s09_walk
set_option Elab.async false
set_option maxRecDepth 100000
set_option maxHeartbeats 2000000
namespace Pl
/-! plain mathematics: lists and numbers alone -/
def hmd (ps : List Int) (many : Int) : Nat := (ps.takeWhile fun p => decide (p < many)).length
def ix (t : List Int) (p : Int) : Int := t.getD p.toNat 0
def NN (l : List Int) : Prop := ∀ x ∈ l, 0 ≤ x
theorem NN.tail {x : Int} {l : List Int} (h : NN (x :: l)) : NN l := fun y hy => h y (List.mem_cons_of_mem _ hy)
theorem NN.head {x : Int} {l : List Int} (h : NN (x :: l)) : 0 ≤ x := h x (List.mem_cons_self ..)
theorem toNat_back {l : List Int} (h : NN l) : (l.map Int.toNat).map (fun (x : Nat) => (x : Int)) = l := by
  induction l with
  | nil => rfl
  | cons x r ih =>
    have e := ih h.tail
    rw [List.map_cons, List.map_cons, e, Int.toNat_of_nonneg h.head]
theorem ix_toNat {t : List Int} (h : NN t) (p : Int) : ix t p = (((t.map Int.toNat).getD p.toNat 0 : Nat) : Int) := by
  unfold ix
  rw [List.getD_eq_getElem?_getD, List.getD_eq_getElem?_getD, List.getElem?_map]
  cases e : t[p.toNat]? with
  | none => rfl
  | some z =>
    have := h z (List.mem_of_getElem? e)
    simp [Int.toNat_of_nonneg this]
theorem done_eq {at_ : List Int} (h : NN at_) (n : Nat) : Rc04.done n (at_.map Int.toNat) = hmd at_ (n : Int) := by
  unfold Rc04.done hmd
  induction at_ with
  | nil => rfl
  | cons p r ih =>
    have hp := h.head
    rw [List.map_cons, List.takeWhile_cons, List.takeWhile_cons]
    have e : (decide (p.toNat < n)) = decide (p < (n : Int)) := by
      by_cases c : p < (n : Int)
      · rw [decide_eq_true c, decide_eq_true (by omega)]
      · rw [decide_eq_false c, decide_eq_false (by omega)]
    rw [e]
    split
    · rw [List.length_cons, List.length_cons, ih h.tail]
    · rfl
theorem hmd_le (ps : List Int) (m : Int) : hmd ps m ≤ ps.length := by
  unfold hmd
  exact (List.takeWhile_sublist _).length_le
/-- the places that are done are below -/
theorem hmd_lt {ps : List Int} {m : Int} : ∀ {i : Nat} {p : Int}, i < hmd ps m → ps[i]? = some p → p < m := by
  unfold hmd
  induction ps with
  | nil =>
    intro i p h _
    simp at h
  | cons q r ih =>
    intro i p h e
    rw [List.takeWhile_cons] at h
    by_cases c : q < m
    · rw [decide_eq_true c] at h
      cases i with
      | zero =>
        simp at e
        omega
      | succ i =>
        simp at e h
        exact ih h e
    · rw [decide_eq_false c] at h
      simp at h
/-- how the loop finds it -/
theorem hmd_at {ps : List Int} {m : Int} : ∀ {i : Nat} {p : Int}, (∀ (j : Nat) (q : Int), j < i → ps[j]? = some q → q < m) → ps[i]? = some p → ¬ p < m → hmd ps m = i := by
  unfold hmd
  induction ps with
  | nil =>
    intro i p _ h _
    simp at h
  | cons q r ih =>
    intro i p ha e hn
    rw [List.takeWhile_cons]
    cases i with
    | zero =>
      simp at e
      subst e
      rw [decide_eq_false hn]
      rfl
    | succ i =>
      have c : q < m := ha 0 q (by omega) rfl
      rw [decide_eq_true c]
      have := ih (i := i) (p := p) (fun j q' hj he => ha (j + 1) q' (by omega) (by simpa using he)) (by simpa using e) hn
      simp only [if_true, List.length_cons]
      omega
theorem hmd_all {ps : List Int} {m : Int} (h : ∀ (j : Nat) (q : Int), ps[j]? = some q → q < m) : hmd ps m = ps.length := by
  unfold hmd
  induction ps with
  | nil => rfl
  | cons q r ih =>
    have c : q < m := h 0 q rfl
    rw [List.takeWhile_cons, decide_eq_true c]
    simp only [if_true, List.length_cons]
    rw [ih fun j q' he => h (j + 1) q' (by simpa using he)]
theorem take_succ_at {α : Type} : ∀ {l : List α} {i : Nat} {x : α}, l[i]? = some x → l.take (i + 1) = l.take i ++ [x]
  | [], i, x, h => by simp at h
  | a :: l, 0, x, h => by
    have e : a = x := Option.some.inj h
    subst e
    rfl
  | a :: l, i + 1, x, h => by
    have ih := take_succ_at (l := l) (i := i) (x := x) h
    show a :: l.take (i + 1) = a :: l.take i ++ [x]
    rw [ih]
    rfl
/-! reading a call's line -/
theorem list_app (l r : List Int) : Rc04Neutral.list ((l.length : Int) :: (l ++ r)) = some (l.map Int.toNat, r) := by
  show (if 0 ≤ (l.length : Int) ∧ ((l.length : Int)).toNat ≤ (l ++ r).length then some (((l ++ r).take ((l.length : Int)).toNat).map Int.toNat, (l ++ r).drop ((l.length : Int)).toNat) else none) = _
  rw [if_pos ⟨by omega, by simp⟩]
  simp
theorem list_end (l : List Int) : Rc04Neutral.list ((l.length : Int) :: l) = some (l.map Int.toNat, []) := by
  have := list_app l []
  rwa [List.append_nil] at this
def takenM (t at_ : List Int) : List Int := (hmd at_ t.length : Int) :: (at_.take (hmd at_ t.length)).map (ix t)
theorem take_out {t at_ : List Int} (ht : NN t) (ha : NN at_) :
    ((Rc04.done (t.map Int.toNat).length (at_.map Int.toNat) : Nat) : Int) :: (Rc04.take (t.map Int.toNat) (at_.map Int.toNat)).map (fun (x : Nat) => (x : Int)) = takenM t at_ := by
  unfold takenM Rc04.take
  rw [List.length_map, done_eq ha]
  refine congrArg _ ?_
  rw [← List.map_take, List.map_map, List.map_map]
  refine List.map_congr_left fun p _ => ?_
  exact (ix_toNat ht p).symm
theorem take32_is {t at_ : List Int} (ht : NN t) (ha : NN at_) : PyRc04.take32 t at_ = takenM t at_ := by
  have e : ∃ b, Rc04Neutral.callOf (0 :: ((t.length : Int) :: (t ++ ((t.length : Int) :: ((at_.length : Int) :: (at_ ++ [(at_.length : Int)])))))) = some (.take32 (t.map Int.toNat) (at_.map Int.toNat), b) := by
    unfold Rc04Neutral.callOf
    simp [list_app]
  obtain ⟨b, e⟩ := e
  unfold PyRc04.take32 Rc04Neutral.f
  simp only [List.cons_append, List.nil_append, List.append_assoc]
  rw [e]
  exact take_out ht ha
theorem take64_is {t at_ : List Int} (ht : NN t) (ha : NN at_) : PyRc04.take64 t at_ = takenM t at_ := by
  have e : ∃ b, Rc04Neutral.callOf (1 :: ((t.length : Int) :: (t ++ ((t.length : Int) :: ((at_.length : Int) :: (at_ ++ [(at_.length : Int)])))))) = some (.take64 (t.map Int.toNat) (at_.map Int.toNat), b) := by
    unfold Rc04Neutral.callOf
    simp [list_app]
  obtain ⟨b, e⟩ := e
  unfold PyRc04.take64 Rc04Neutral.f
  simp only [List.cons_append, List.nil_append, List.append_assoc]
  rw [e]
  exact take_out ht ha
end Pl
namespace Pl
def putL (join : Int → Int → Int) : List Int → List (Int × Int) → List Int
  | t, [] => t
  | t, (p, v) :: l => putL join (t.set p.toNat (join (ix t p) v)) l
theorem putL_len (join : Int → Int → Int) : ∀ (l : List (Int × Int)) (t : List Int), (putL join t l).length = t.length
  | [], _ => rfl
  | (p, v) :: l, t => by
    rw [putL, putL_len join l, List.length_set]
theorem putL_snoc (join : Int → Int → Int) : ∀ (l : List (Int × Int)) (t : List Int) (p v : Int), putL join t (l ++ [(p, v)]) = (putL join t l).set p.toNat (join (ix (putL join t l) p) v)
  | [], _, _, _ => rfl
  | (q, w) :: l, t, p, v => by
    rw [List.cons_append, putL, putL, putL_snoc join l]
theorem NN.set {t : List Int} (h : NN t) {x : Int} (hx : 0 ≤ x) (k : Nat) : NN (t.set k x) := fun y hy => by
  rcases List.mem_or_eq_of_mem_set hy with h1 | h1
  · exact h y h1
  · rw [h1]
    exact hx
theorem NN.ix {t : List Int} (h : NN t) (p : Int) : 0 ≤ ix t p := by
  rw [ix_toNat h]
  omega
theorem set_toNat (t : List Int) (k : Nat) (x : Int) : (t.set k x).map Int.toNat = (t.map Int.toNat).set k x.toNat := by
  rw [List.map_set]
theorem put_is (jn : Nat → Nat → Nat) (join : Int → Int → Int) (hj : ∀ x y : Int, 0 ≤ x → 0 ≤ y → 0 ≤ join x y ∧ jn x.toNat y.toNat = (join x y).toNat) :
    ∀ (a v t : List Int), NN a → NN v → NN t → (Rc04.put jn (t.map Int.toNat) ((a.map Int.toNat).zip (v.map Int.toNat))).map (fun (x : Nat) => (x : Int)) = putL join t ((a.zip v).take (hmd a t.length))
  | [], v, t, _, _, ht => by
    simp only [List.map_nil, List.zip_nil_left, List.take_nil, putL]
    rw [Rc04.put]
    exact toNat_back ht
  | p :: a, [], t, _, _, ht => by
    simp only [List.map_nil, List.zip_nil_right, List.take_nil, putL]
    rw [Rc04.put]
    exact toNat_back ht
  | p :: a, w :: v, t, ha, hv, ht => by
    have hp := ha.head
    have hw := hv.head
    rw [List.map_cons, List.map_cons, List.zip_cons_cons, List.zip_cons_cons, Rc04.put]
    unfold hmd
    rw [List.takeWhile_cons]
    by_cases c : p < (t.length : Int)
    · rw [if_pos (show p.toNat < (t.map Int.toNat).length by rw [List.length_map]; omega), decide_eq_true c]
      obtain ⟨j1, j2⟩ := hj (ix t p) w (ht.ix p) hw
      have e : (t.map Int.toNat).set p.toNat (jn ((t.map Int.toNat).getD p.toNat 0) w.toNat) = (t.set p.toNat (join (ix t p) w)).map Int.toNat := by
        rw [set_toNat, ← j2]
        have q : (ix t p).toNat = (t.map Int.toNat).getD p.toNat 0 := by
          rw [ix_toNat ht]
          omega
        rw [q]
      rw [e, put_is jn join hj a v _ ha.tail hv.tail (ht.set j1 _)]
      simp only [if_true, List.length_cons, List.take_succ_cons, putL, List.length_set]
      rfl
    · rw [if_neg (show ¬ p.toNat < (t.map Int.toNat).length by rw [List.length_map]; omega), decide_eq_false c]
      simp only [Bool.false_eq_true, if_false, List.length_nil, List.take_zero, putL]
      exact toNat_back ht
def jLast (_ v : Int) : Int := v
def jMost (x v : Int) : Int := if v > x then v else x
theorem jLast_ok : ∀ x y : Int, 0 ≤ x → 0 ≤ y → 0 ≤ jLast x y ∧ Rc04.last x.toNat y.toNat = (jLast x y).toNat := fun _ _ _ hy => ⟨hy, rfl⟩
theorem jMost_ok : ∀ x y : Int, 0 ≤ x → 0 ≤ y → 0 ≤ jMost x y ∧ max x.toNat y.toNat = (jMost x y).toNat := fun x y hx hy => by
  unfold jMost
  split <;> omega
def putM (join : Int → Int → Int) (t at_ v : List Int) : List Int := (hmd at_ t.length : Int) :: putL join t ((at_.zip v).take (hmd at_ t.length))
theorem put_out (jn : Nat → Nat → Nat) (join : Int → Int → Int) (hj : ∀ x y : Int, 0 ≤ x → 0 ≤ y → 0 ≤ join x y ∧ jn x.toNat y.toNat = (join x y).toNat) {t at_ v : List Int} (ht : NN t) (ha : NN at_) (hv : NN v) :
    ((Rc04.done (t.map Int.toNat).length (at_.map Int.toNat) : Nat) : Int) :: (Rc04.put jn (t.map Int.toNat) ((at_.map Int.toNat).zip (v.map Int.toNat))).map (fun (x : Nat) => (x : Int)) = putM join t at_ v := by
  unfold putM
  rw [List.length_map, done_eq ha, put_is jn join hj at_ v t ha hv ht]
theorem put32_is {t at_ v : List Int} (ht : NN t) (ha : NN at_) (hv : NN v) : PyRc04.put32 t at_ v = putM jLast t at_ v := by
  have e : ∃ b, Rc04Neutral.callOf (3 :: ((t.length : Int) :: (t ++ ((t.length : Int) :: ((at_.length : Int) :: (at_ ++ ((at_.length : Int) :: ((v.length : Int) :: v)))))))) = some (.put32 (t.map Int.toNat) (at_.map Int.toNat) (v.map Int.toNat), b) := by
    unfold Rc04Neutral.callOf
    simp [list_app, list_end]
  obtain ⟨b, e⟩ := e
  unfold PyRc04.put32 Rc04Neutral.f
  simp only [List.cons_append, List.nil_append, List.append_assoc]
  rw [e]
  exact put_out _ _ jLast_ok ht ha hv
theorem put64_is {t at_ v : List Int} (ht : NN t) (ha : NN at_) (hv : NN v) : PyRc04.put64 t at_ v = putM jLast t at_ v := by
  have e : ∃ b, Rc04Neutral.callOf (4 :: ((t.length : Int) :: (t ++ ((t.length : Int) :: ((at_.length : Int) :: (at_ ++ ((at_.length : Int) :: ((v.length : Int) :: v)))))))) = some (.put64 (t.map Int.toNat) (at_.map Int.toNat) (v.map Int.toNat), b) := by
    unfold Rc04Neutral.callOf
    simp [list_app, list_end]
  obtain ⟨b, e⟩ := e
  unfold PyRc04.put64 Rc04Neutral.f
  simp only [List.cons_append, List.nil_append, List.append_assoc]
  rw [e]
  exact put_out _ _ jLast_ok ht ha hv
theorem most32_is {t at_ v : List Int} (ht : NN t) (ha : NN at_) (hv : NN v) : PyRc04.most32 t at_ v = putM jMost t at_ v := by
  have e : ∃ b, Rc04Neutral.callOf (5 :: ((t.length : Int) :: (t ++ ((t.length : Int) :: ((at_.length : Int) :: (at_ ++ ((at_.length : Int) :: ((v.length : Int) :: v)))))))) = some (.most32 (t.map Int.toNat) (at_.map Int.toNat) (v.map Int.toNat), b) := by
    unfold Rc04Neutral.callOf
    simp [list_app, list_end]
  obtain ⟨b, e⟩ := e
  unfold PyRc04.most32 Rc04Neutral.f
  simp only [List.cons_append, List.nil_append, List.append_assoc]
  rw [e]
  exact put_out _ _ jMost_ok ht ha hv
theorem put32_asks {t at_ v : List Int} (h : PyRc04.put32_asked t at_ v = true) : at_.length = v.length := by
  unfold PyRc04.put32_asked Rc04Neutral.asked at h
  simp only [List.cons_append, List.nil_append, List.append_assoc] at h
  rw [Bool.and_eq_true] at h
  have h2 := h.2
  rw [List.all_cons, List.all_nil, Bool.and_true, Bool.and_eq_true] at h2
  have h3 := h2.2
  unfold Rc04Neutral.callOf at h3
  simp [list_app, list_end, Rc04Neutral.right] at h3
  omega
theorem put64_asks {t at_ v : List Int} (h : PyRc04.put64_asked t at_ v = true) : at_.length = v.length := by
  unfold PyRc04.put64_asked Rc04Neutral.asked at h
  simp only [List.cons_append, List.nil_append, List.append_assoc] at h
  rw [Bool.and_eq_true] at h
  have h2 := h.2
  rw [List.all_cons, List.all_nil, Bool.and_true, Bool.and_eq_true] at h2
  have h3 := h2.2
  unfold Rc04Neutral.callOf at h3
  simp [list_app, list_end, Rc04Neutral.right] at h3
  omega
theorem most32_asks {t at_ v : List Int} (h : PyRc04.most32_asked t at_ v = true) : at_.length = v.length := by
  unfold PyRc04.most32_asked Rc04Neutral.asked at h
  simp only [List.cons_append, List.nil_append, List.append_assoc] at h
  rw [Bool.and_eq_true] at h
  have h2 := h.2
  rw [List.all_cons, List.all_nil, Bool.and_true, Bool.and_eq_true] at h2
  have h3 := h2.2
  unfold Rc04Neutral.callOf at h3
  simp [list_app, list_end, Rc04Neutral.right] at h3
  omega
end Pl
namespace Pl
/-! sixteen lanes -/
/-- a mask chooses a lane and its place is below -/
def ch (mask : Int) (i : Nat) : Bool := Rc04.chosen mask.toNat i
def lanesL (mask : Int) (at_ : List Int) (n : Int) : List Nat := (List.range 16).filter fun i => ch mask i && decide (ix at_ i < n)
theorem getD_map_toNat {l : List Int} (h : NN l) (i : Nat) : (((l.map Int.toNat).getD i 0 : Nat) : Int) = ix l i := by
  rw [ix_toNat h]
  rfl
theorem lane_toNat {l : List Int} (h : NN l) (i : Nat) : Rc04.lane (l.map Int.toNat) i = (ix l i).toNat := by
  have := getD_map_toNat h i
  unfold Rc04.lane
  omega
/-! ### take16 -/
def takeL (t at_ : List Int) : List Int → List Nat → List Int
  | found, [] => found
  | found, i :: l => takeL t at_ (found.set i (ix t (ix at_ i))) l
theorem takeL_snoc (t at_ : List Int) : ∀ (l : List Nat) (f : List Int) (i : Nat), takeL t at_ f (l ++ [i]) = (takeL t at_ f l).set i (ix t (ix at_ i))
  | [], _, _ => rfl
  | j :: l, f, i => by
    rw [List.cons_append, takeL, takeL, takeL_snoc t at_ l]
theorem takeL_len (t at_ : List Int) : ∀ (l : List Nat) (f : List Int), (takeL t at_ f l).length = f.length
  | [], _ => rfl
  | i :: l, f => by rw [takeL, takeL_len t at_ l, List.length_set]
theorem takeL_at (t at_ : List Int) : ∀ (l : List Nat) (f : List Int) (j : Nat), j < f.length → (takeL t at_ f l)[j]? = if j ∈ l then some (ix t (ix at_ j)) else f[j]?
  | [], f, j, _ => by simp [takeL]
  | i :: l, f, j, hj => by
    rw [takeL, takeL_at t at_ l _ j (by rw [List.length_set]; exact hj)]
    by_cases c : j ∈ l
    · rw [if_pos c, if_pos (List.mem_cons_of_mem _ c)]
    · rw [if_neg c]
      by_cases e : i = j
      · subst e
        rw [if_pos (List.mem_cons_self ..), List.getElem?_set_self hj]
      · rw [if_neg (by
          intro q
          rcases List.mem_cons.mp q with q | q
          · exact e q.symm
          · exact c q), List.getElem?_set_ne e]
def take16M (mask : Int) (t at_ other : List Int) : List Int := 0 :: takeL t at_ other (lanesL mask at_ t.length)
theorem lanes_at (f : Nat → Nat) (j : Nat) (hj : j < 16) : (Rc04.lanes f)[j]? = some (f j) := by
  unfold Rc04.lanes
  rw [List.getElem?_map, List.getElem?_range hj]
  rfl
theorem lanes_len (f : Nat → Nat) : (Rc04.lanes f).length = 16 := by
  unfold Rc04.lanes
  rw [List.length_map, List.length_range]
theorem ix_at {l : List Int} {i : Nat} (h : i < l.length) : l[i]? = some (ix l i) := by
  unfold ix
  rw [List.getD_eq_getElem?_getD, Int.toNat_natCast, List.getElem?_eq_getElem h]
  rfl
theorem mem_lanesL {mask : Int} {at_ : List Int} {n : Int} {i : Nat} : i ∈ lanesL mask at_ n ↔ i < 16 ∧ ch mask i = true ∧ ix at_ i < n := by
  unfold lanesL
  rw [List.mem_filter, List.mem_range, Bool.and_eq_true, decide_eq_true_eq]
theorem take16_is {mask : Int} {t at_ other : List Int} (ht : NN t) (ha : NN at_) (ho : NN other) (hl : other.length = 16) : PyRc04.take16 mask t at_ other = take16M mask t at_ other := by
  have e : ∃ b, Rc04Neutral.callOf (6 :: ((t.length : Int) :: (t ++ ((t.length : Int) :: ((at_.length : Int) :: (at_ ++ ((other.length : Int) :: (other ++ [mask])))))))) = some (.take16 (t.map Int.toNat) (at_.map Int.toNat) (other.map Int.toNat) mask.toNat, b) := by
    unfold Rc04Neutral.callOf
    simp [list_app]
  obtain ⟨b, e⟩ := e
  unfold PyRc04.take16 Rc04Neutral.f
  simp only [List.cons_append, List.nil_append, List.append_assoc]
  rw [e]
  show (0 : Int) :: (Rc04.take16 (t.map Int.toNat) (at_.map Int.toNat) (other.map Int.toNat) mask.toNat).map (fun (x : Nat) => (x : Int)) = take16M mask t at_ other
  unfold take16M
  refine congrArg _ ?_
  refine List.ext_getElem? fun j => ?_
  unfold Rc04.take16
  by_cases hj : j < 16
  · rw [List.getElem?_map, lanes_at _ j hj, takeL_at t at_ _ _ j (by omega), List.length_map, lane_toNat ha]
    have q : (ix at_ ↑j).toNat < t.length ↔ ix at_ ↑j < (t.length : Int) := by
      have := ha.ix (j : Int)
      omega
    by_cases c : ch mask j = true ∧ ix at_ (j : Int) < (t.length : Int)
    · rw [if_pos (mem_lanesL.mpr ⟨hj, c⟩), if_pos ⟨c.1, q.mpr c.2⟩]
      show some _ = some _
      have := ix_toNat ht (ix at_ (j : Int))
      rw [this]
    · rw [if_neg (fun z => c (mem_lanesL.mp z).2), if_neg (fun z => c ⟨z.1, q.mp z.2⟩)]
      rw [lane_toNat ho, ix_at (by omega)]
      show some (((ix other (j : Int)).toNat : Nat) : Int) = some (ix other (j : Int))
      rw [Int.toNat_of_nonneg (ho.ix _)]
  · rw [List.getElem?_eq_none (by rw [List.length_map, lanes_len]; omega), List.getElem?_eq_none (by rw [takeL_len]; omega)]
end Pl
namespace Pl
def go1 (on : List Int) (p : Int) : Int := if p < (on.length : Int) then ix on p else p
def goK (on : List Int) : Nat → Int → Int
  | 0, p => p
  | k + 1, p => go1 on (goK on k p)
def goN (on : List Nat) (p : Nat) : Nat := if p < on.length then on.getD p 0 else p
theorem walk_succ (on : List Nat) : ∀ (k p : Nat), Rc04.walk on (k + 1) p = goN on (Rc04.walk on k p)
  | 0, p => rfl
  | k + 1, p => by
    rw [Rc04.walk]
    by_cases c : p < on.length
    · rw [if_pos c, walk_succ on k]
      congr 1
      rw [Rc04.walk, if_pos c]
    · rw [if_neg c, Rc04.walk, if_neg c]
      unfold goN
      rw [if_neg c]
theorem goK_nn {on : List Int} (h : NN on) : ∀ (k : Nat) (p : Int), 0 ≤ p → 0 ≤ goK on k p
  | 0, _, hp => hp
  | k + 1, p, hp => by
    have := goK_nn h k p hp
    unfold goK go1
    split
    · exact h.ix _
    · exact this
theorem walk_is {on : List Int} (h : NN on) : ∀ (k : Nat) (p : Int), 0 ≤ p → ((Rc04.walk (on.map Int.toNat) k p.toNat : Nat) : Int) = goK on k p
  | 0, p, hp => Int.toNat_of_nonneg hp
  | k + 1, p, hp => by
    have ih := walk_is h k p hp
    have nn := goK_nn h k p hp
    rw [walk_succ]
    have e : Rc04.walk (on.map Int.toNat) k p.toNat = (goK on k p).toNat := by omega
    rw [e]
    show ((goN (on.map Int.toNat) (goK on k p).toNat : Nat) : Int) = go1 on (goK on k p)
    unfold goN go1
    rw [List.length_map]
    by_cases c : goK on k p < (on.length : Int)
    · rw [if_pos c, if_pos (by omega), ix_toNat h]
    · rw [if_neg c, if_neg (by omega)]
      omega
def walkM (steps : Int) (on at_ : List Int) : List Int := 0 :: at_.map (goK on steps.toNat)
theorem walk_ok {steps : Int} {on at_ : List Int} (ho : NN on) (ha : NN at_) (hl : at_.length = 16) : PyRc04.walk steps on at_ = walkM steps on at_ := by
  have e : ∃ b, Rc04Neutral.callOf (8 :: ((on.length : Int) :: (on ++ ((on.length : Int) :: ((at_.length : Int) :: (at_ ++ [steps])))))) = some (.walk (on.map Int.toNat) (at_.map Int.toNat) steps.toNat, b) := by
    unfold Rc04Neutral.callOf
    simp [list_app]
  obtain ⟨b, e⟩ := e
  unfold PyRc04.walk Rc04Neutral.f
  simp only [List.cons_append, List.nil_append, List.append_assoc]
  rw [e]
  show (0 : Int) :: (Rc04.lanes fun i => Rc04.walk (on.map Int.toNat) steps.toNat (Rc04.lane (at_.map Int.toNat) i)).map (fun (x : Nat) => (x : Int)) = walkM steps on at_
  unfold walkM
  refine congrArg _ ?_
  refine List.ext_getElem? fun j => ?_
  by_cases hj : j < 16
  · rw [List.getElem?_map, lanes_at _ j hj, List.getElem?_map, ix_at (by omega), lane_toNat ha]
    exact congrArg some (walk_is ho _ _ (ha.ix _))
  · rw [List.getElem?_eq_none (by rw [List.length_map, lanes_len]; omega), List.getElem?_eq_none (by rw [List.length_map]; omega)]
/-! ### one round, lane by lane -/
def part (g : Int → Int) (F : List Int) (j : Nat) : List Int := (F.take j).map g ++ F.drop j
theorem part_zero (g : Int → Int) (F : List Int) : part g F 0 = F := rfl
theorem part_all (g : Int → Int) (F : List Int) : part g F F.length = F.map g := by
  unfold part
  rw [List.take_length, List.drop_length, List.append_nil]
theorem part_len (g : Int → Int) (F : List Int) (j : Nat) : (part g F j).length = F.length := by
  unfold part
  rw [List.length_append, List.length_map, List.length_take, List.length_drop]
  omega
theorem part_at {g : Int → Int} {F : List Int} {j : Nat} (h : j < F.length) : (part g F j)[j]? = some (ix F j) := by
  unfold part
  rw [List.getElem?_append_right (by rw [List.length_map, List.length_take]; omega), List.length_map, List.length_take, List.getElem?_drop, ← ix_at h]
  congr 1
  omega
theorem part_succ {g : Int → Int} {F : List Int} {j : Nat} (h : j < F.length) : (part g F j).set j (g (ix F j)) = part g F (j + 1) := by
  refine List.ext_getElem? fun i => ?_
  have hx := ix_at h
  by_cases e : j = i
  · subst e
    rw [List.getElem?_set_self (by rw [part_len]; exact h)]
    unfold part
    rw [List.getElem?_append_left (by rw [List.length_map, List.length_take]; omega), List.getElem?_map, List.getElem?_take, if_pos (by omega), hx]
    rfl
  · rw [List.getElem?_set_ne e]
    unfold part
    by_cases c : i < j
    · rw [List.getElem?_append_left (by rw [List.length_map, List.length_take]; omega), List.getElem?_append_left (by rw [List.length_map, List.length_take]; omega), List.getElem?_map, List.getElem?_map, List.getElem?_take, List.getElem?_take, if_pos c, if_pos (by omega)]
    · rw [List.getElem?_append_right (by rw [List.length_map, List.length_take]; omega), List.getElem?_append_right (by rw [List.length_map, List.length_take]; omega), List.length_map, List.length_map, List.length_take, List.length_take, List.getElem?_drop, List.getElem?_drop]
      congr 1
      omega
theorem set_same {l : List Int} {j : Nat} {x : Int} (h : l[j]? = some x) : l.set j x = l := by
  refine List.ext_getElem? fun i => ?_
  by_cases e : j = i
  · subst e
    rw [List.getElem?_set_self (List.getElem?_eq_some_iff.mp h).1, h]
  · rw [List.getElem?_set_ne e]
end Pl
namespace Wk
open PySem PySem.Spec PyProof.Rows L2
open PySem.W (Codec)
def topS (i : Nat) : Stmt := PySem.Challenge.pw_placelists_s09_walk.main.body.getD i (.Pass ⟨0, 0, 0, 0⟩)
abbrev sWalked : Stmt := topS 2
abbrev sTop : Stmt := topS 4
/-! ### the heap: helpers -/
theorem same_upd {H : Hp} {p : Addr} {o : HO} (h : H p = none) : Same H (upd H p o) := fun b x e => by
  rw [upd_ne (ne_of_none e h)]
  exact e
/-- an object new since H stands changed: H is as it was -/
theorem same_put {H H1 : Hp} {p : Addr} {o : HO} (s : Same H H1) (h : H p = none) : Same H (upd H1 p o) := fun b x e => by
  rw [upd_ne (ne_of_none e h)]
  exact s _ _ e
theorem line_le {n : Nat} (h : n ≤ 1048576) : n ≤ sizeLine := Nat.le_trans h (by decide)
theorem line_lt {n : Nat} (h : n < 1048576) : n < sizeLine := Nat.lt_of_lt_of_le h (by decide)
theorem if_true_of {c : Bool} {A B : Prop} (hc : c = true) (h : A) : if c = true then A else B := by
  rw [if_pos hc]
  exact h
theorem if_false_of {c : Bool} {A B : Prop} (hc : c = false) (h : B) : if c = true then A else B := by
  rw [hc, if_neg Bool.false_ne_true]
  exact h
theorem ints_get {ns : List Int} {i : Nat} {y : V} (h : (ns.map V.int)[i]? = some y) : ∃ z, ns[i]? = some z ∧ y = V.int z := by
  rw [List.getElem?_map] at h
  cases e : ns[i]? with
  | none =>
    rw [e] at h
    cases h
  | some z =>
    rw [e] at h
    exact ⟨z, rfl, (Option.some.inj h).symm⟩
theorem ints_at {ns : List Int} {i : Nat} {z : Int} (h : ns[i]? = some z) : (ns.map V.int)[i]? = some (V.int z) := by
  rw [List.getElem?_map, h]
  rfl
theorem ints_set (ns : List Int) (i : Nat) (z : Int) : (ns.map V.int).set i (V.int z) = (ns.set i z).map V.int := by
  rw [List.map_set]
/-- the item at a place that is not negative -/
theorem at_ix {ns : List Int} {p : Int} (h0 : 0 ≤ p) (h1 : p < (ns.length : Int)) : atI (ns.map V.int) p = some (V.int (Pl.ix ns p)) := by
  refine at_of (j := p.toNat) (Int.toNat_of_nonneg h0).symm ?_
  refine ints_at ?_
  have hl : p.toNat < ns.length := by omega
  unfold Pl.ix
  rw [List.getD_eq_getElem?_getD, List.getElem?_eq_getElem hl]
  rfl
/-- a comprehension without a test goes on -/
theorem yes_if {σ : L2.St} {H : Hp} {A B : Hp → Prop} (h : A H) : tYes σ H fun b H3 => if b = true then A H3 else B H3 := by
  show if true = true then A H else B H
  rw [if_pos rfl]
  exact h
/-! ### walked -/
theorem scWalked : FnScope ["steps", "onward", "places", "found", "k", "lane"] ["steps", "onward", "places"] (defScope sWalked) := ⟨rfl, rfl, rfl, by decide +kernel, rfl, by decide +kernel, by decide +kernel⟩
def spWalked (K : PySem.W.Frag) : Sp := fun xs H Q _ => ∃ (a b : Addr) (steps : Int) (ts ps : List Int), xs = [.int steps, .ref a, .ref b] ∧ SqL K H a (ts.map V.int) ∧ SqL K H b (ps.map V.int) ∧ ps.length = 16 ∧ 0 ≤ steps ∧ steps ≤ 65535 ∧ Pl.NN ts ∧ Pl.NN ps ∧
  ∀ H' p, Same H H' → H p = none → H' p = some (.lst ((ps.map (Pl.goK ts steps.toNat)).map V.int)) → Q (.ref p) H'
theorem ok_walked {P : Program} {w : World} {K : PySem.W.Frag} {mg : Str → Option Value} {base : Heap} {f : Addr} {fd : FuncData} {y : Tok} (F : Fun K "walked" "walked" sWalked f fd) (ml : mg "len" = none) (mr : mg "range" = none) (mli : mg "list" = none) (gL : mg "LANES" = some (.int 16 y)) : FnOk P w K mg base CX0 1 f fd ["steps", "onward", "places"] (spWalked K) := by
  refine F.ok scWalked (fun vs H Q E h => ?_) (fun cdv A outer s H vs Q E hr h => ?_)
  · obtain ⟨a, b, steps, ts, ps, rfl, _⟩ := h
    rfl
  · obtain ⟨a, b, steps, ts, ps, rfl, hT, hS, hlp, h0, h1, nt, np, q⟩ := h
    refine ⟨_, pss_cons (ps_set (i := 3) scWalked.nd rfl (.inl rfl) (pe_callTy call_list_of (by rfl) mli (by decide +kernel) (pa_cons (pv 2) pa_nil)))
      (pss_cons (ps_for PassesOwn.never rfl (pi_range1 (by rfl) mr (pa_cons (pv 0) pa_nil)) (pg_name (i := 4) scWalked.nd rfl (.inl rfl))
        (pss_one (ps_for PassesOwn.never rfl (pi_range1 (by rfl) mr (pa_cons (pe_glob (v := V.int 16) (by rfl) gL ⟨_, rfl⟩) pa_nil)) (pg_name (i := 5) scWalked.nd rfl (.inl rfl))
          (pss_one (ps_if (pt_cmpR op_lt (pe_ix ix_list (pv 3) (pv 5) (fun _ _ => rfl)) (pe_callB call_len_seq (by rfl) ml PySem.boot_len (pa_cons (pv 1) pa_nil)) (nomark _))
            (pss_one (ps_asg (pe_ix ix_list (pv 1) (pe_ix ix_list (pv 3) (pv 5) (fun _ _ => rfl)) (fun _ _ => rfl)) (pg_sub (pv 3) (pv 5) set_list))) pss_nil)))))
      (pss_one (ps_ret (pv 3)))), ?_⟩
    have hl2 : ((ts.map V.int).length : Int) = (ts.length : Int) := by rw [List.length_map]
    -- found = list(places)
    refine ⟨_, rfl, b, _, rfl, .inl hS, fun g ng => ?_⟩
    have s1 : Same H (upd H g (.lst (ps.map V.int))) := same_upd ng
    have e0 : ps.map (Pl.goK ts 0) = ps := List.map_id _
    -- for k in range(steps)
    refine ⟨_, rfl, steps, rfl, by omega, by omega, ?_⟩
    refine for_range (lo := 0) (n := steps.toNat) (fun k σ H' => ∃ v4 v5 : Option V, σ = [some (.int steps), some (.ref a), some (.ref b), some (.ref g), v4, v5] ∧ Same H H' ∧ H' g = some (.lst ((ps.map (Pl.goK ts k)).map V.int)))
      ⟨none, none, rfl, s1, by rw [e0]; exact upd_same⟩ ?_ ?_
    · rintro k σ H' hk ⟨v4, v5, rfl, s5, g5⟩
      have hF : (ps.map (Pl.goK ts k)).length = 16 := by rw [List.length_map, hlp]
      have hFn : Pl.NN (ps.map (Pl.goK ts k)) := fun x hx => by
        obtain ⟨p, hp, rfl⟩ := List.mem_map.mp hx
        exact Pl.goK_nn nt k p (np p hp)
      -- for lane in range(LANES)
      refine ⟨_, rfl, by decide, by decide, ?_⟩
      refine for_range (lo := 0) (n := 16) (fun j σ H' => ∃ v5 : Option V, σ = [some (.int steps), some (.ref a), some (.ref b), some (.ref g), some (.int (0 + (k : Int))), v5] ∧ Same H H' ∧ H' g = some (.lst ((Pl.part (Pl.go1 ts) (ps.map (Pl.goK ts k)) j).map V.int)))
        ⟨v5, rfl, s5, by rw [Pl.part_zero]; exact g5⟩ ?_ ?_
      · rintro j σ H2 hj ⟨v5', rfl, s6, g6⟩
        have hpt := Pl.part_at (g := Pl.go1 ts) (F := ps.map (Pl.goK ts k)) (j := j) (by omega)
        have hx0 : 0 ≤ Pl.ix (ps.map (Pl.goK ts k)) (j : Int) := hFn.ix _
        have hpl : (Pl.part (Pl.go1 ts) (ps.map (Pl.goK ts k)) j).length = 16 := (Pl.part_len _ _ _).trans hF
        refine ⟨_, rfl, _, rfl, g, _, _, _, rfl, rfl, SqL.of g6, at_of (j := j) (by omega) (ints_at hpt), _, rfl, a, _, rfl, .inl (s6.seq hT), _, _, rfl, rfl, _, rfl, ?_⟩
        rw [hl2]
        by_cases c : Pl.ix (ps.map (Pl.goK ts k)) (j : Int) < (ts.length : Int)
        · refine if_true_of (decide_eq_true c) ?_
          refine ⟨_, rfl, _, rfl, _, rfl, g, _, _, _, rfl, rfl, SqL.of g6, at_of (j := j) (by omega) (ints_at hpt), a, _, _, _, rfl, rfl, s6.seq hT, at_ix hx0 c, _, rfl, _, rfl, g, _, _, j, rfl, rfl, g6, ?_, ?_⟩
          · unfold ixN
            rw [if_pos (by omega), if_pos (by rw [List.length_map, hpl]; omega)]
            exact congrArg some (by omega)
          · refine ⟨_, rfl, same_put s6 ng, ?_⟩
            rw [upd_same, ints_set, ← Pl.part_succ (g := Pl.go1 ts) (F := ps.map (Pl.goK ts k)) (j := j) (by omega)]
            have e : Pl.go1 ts (Pl.ix (ps.map (Pl.goK ts k)) (j : Int)) = Pl.ix ts (Pl.ix (ps.map (Pl.goK ts k)) (j : Int)) := if_pos c
            rw [e]
        · refine if_false_of (decide_eq_false c) ?_
          refine ⟨_, rfl, s6, ?_⟩
          have e : Pl.go1 ts (Pl.ix (ps.map (Pl.goK ts k)) (j : Int)) = Pl.ix (ps.map (Pl.goK ts k)) (j : Int) := if_neg c
          rw [← Pl.part_succ (g := Pl.go1 ts) (F := ps.map (Pl.goK ts k)) (j := j) (by omega), e, Pl.set_same hpt]
          exact g6
      · rintro σ H2 ⟨v5', rfl, s6, g6⟩
        have e := Pl.part_all (Pl.go1 ts) (ps.map (Pl.goK ts k))
        rw [hF] at e
        have e2 : (ps.map (Pl.goK ts k)).map (Pl.go1 ts) = ps.map (Pl.goK ts (k + 1)) := by
          rw [List.map_map]
          rfl
        rw [e, e2] at g6
        exact ⟨_, _, rfl, s6, g6⟩
    · rintro σ H' ⟨v4, v5, rfl, s5, g5⟩
      exact ⟨_, rfl, q H' g s5 ng g5⟩
/-! ### walk -/
theorem scTop : FnScope ["steps", "onward", "at"] ["steps", "onward", "at"] (defScope sTop) := ⟨rfl, rfl, rfl, by decide +kernel, rfl, by decide +kernel, by decide +kernel⟩
def spTop (K : PySem.W.Frag) : Sp := fun xs H Q _ => ∃ (a b : Addr) (steps : Int) (ts ps : List Int), xs = [.int steps, .ref a, .ref b] ∧ SqL K H a (ts.map V.int) ∧ SqL K H b (ps.map V.int) ∧ ps.length = 16 ∧ 0 ≤ steps ∧ steps ≤ 65535 ∧ Pl.NN ts ∧ Pl.NN ps ∧
  ∀ (H' : Hp) (p : Addr), H' p = some (.lst ((PyRc04.walk steps ts ps).map V.int)) → Q (.ref p) H'
theorem ok_top {P : Program} {w : World} {K : PySem.W.Frag} {mg : Str → Option Value} {base : Heap} {f f1 : Addr} {fd fd1 : FuncData} {y : Tok} (F : Fun K "walk" "walk" sTop f fd)
    (F1 : Fun K "walked" "walked" sWalked f1 fd1) (b1 : Binds K fd1 ["steps", "onward", "places"] []) (g1 : mg "walked" = some (.ref f1)) (ml : mg "len" = none) (mr : mg "range" = none) (mli : mg "list" = none) (gL : mg "LANES" = some (.int 16 y)) : FnOk P w K mg base CX0 2 f fd ["steps", "onward", "at"] (spTop K) := by
  have G1 : FnOk P w K mg base CX0 1 f1 fd1 ["steps", "onward", "places"] (spWalked K) := ok_walked F1 ml mr mli gL
  refine F.ok scTop (fun vs H Q E h => ?_) (fun cdv A outer s H vs Q E hr h => ?_)
  · obtain ⟨a, b, steps, ts, ps, rfl, _⟩ := h
    rfl
  · obtain ⟨a, b, steps, ts, ps, rfl, hT, hS, hlp, h0, h1, nt, np, q⟩ := h
    refine ⟨_, pss_one (ps_ret (pe_op op_cat (pe_lst (pa_cons pe_int pa_nil)) (pe_call G1 hr (by rfl) g1 F1.kp b1 .nil pass0 (pa_cons (pv 0) (pa_cons (pv 1) (pa_cons (pv 2) pa_nil)))))), ?_⟩
    refine ⟨(by show 1 ≤ sizeLine; decide), fun l nl => ?_⟩
    have s1 := same_upd (o := .lst [V.int 0]) nl
    refine ⟨_, rfl, _, rfl, _, rfl, a, b, steps, ts, ps, rfl, s1.seq hT, s1.seq hS, hlp, h0, h1, nt, np, fun H' g s2 ng eg => ?_⟩
    refine ⟨l, g, _, _, rfl, rfl, s2 _ _ upd_same, eg, ?_, fun p np' => ?_⟩
    · rw [List.length_map, List.length_map, hlp]
      show 17 ≤ sizeLine
      decide
    · refine q _ p ?_
      rw [upd_same, Pl.walk_ok nt np hlp]
      rfl
theorem top_of {K : PySem.W.Frag} {H : Hp} {Q : V → Hp → Prop} {E : XK} {a b : Addr} {steps : Int} {ts ps : List Int} (pm : 0 ≤ steps ∧ steps ≤ 65535) (pt : 0 ≤ ts.length ∧ ts.length ≤ 400 ∧ Pl.NN ts) (pp : 16 ≤ ps.length ∧ ps.length ≤ 16 ∧ Pl.NN ps) (st : SqL K H a (ts.map V.int)) (ss : SqL K H b (ps.map V.int))
    (_ : PyRc04.walk_asked steps ts ps = true) (k : ∀ (H' : Hp) (p : Addr), H' p = some (.lst ((PyRc04.walk steps ts ps).map V.int)) → Q (.ref p) H') : spTop K [.int steps, .ref a, .ref b] H Q E :=
  ⟨a, b, steps, ts, ps, rfl, st, ss, by omega, pm.1, pm.2, pt.2.2, pp.2.2, k⟩
/-! ### reading the request -/
theorem and_two {a b : Bool} (h : (a && b) = true) : a = true ∧ b = true := Bool.and_eq_true_iff.mp h
theorem list_in {least most : Nat} {hi : Int} {l : List Int} (h : (Codec.inLen least most l && l.all (Codec.inInt 0 hi)) = true) : least ≤ l.length ∧ l.length ≤ most ∧ Pl.NN l := by
  have h1 := Codec.inNat_iff.mp (and_two h).1
  refine ⟨h1.1, h1.2, fun x hx => ?_⟩
  exact (Codec.inInt_iff.mp (List.all_eq_true.mp (and_two h).2 x hx)).1
theorem dw_cons {K : PySem.W.Frag} {H : Hp} {xs : List V} {d : PySem.W.WData} {ds : List PySem.W.WData} (x : DwAll K H xs (d :: ds)) : ∃ v vs, xs = v :: vs ∧ Dw K H v d ∧ DwAll K H vs ds := by
  cases x with
  | cons a b => exact ⟨_, _, rfl, a, b⟩
theorem dw_list {K : PySem.W.Frag} {H : Hp} {v : V} {ns : List Int} (x : Dw K H v (.list (ns.map PySem.W.WData.int))) : ∃ a, v = .ref a ∧ SqL K H a (ns.map V.int) := by
  cases x with
  | lst hs ha =>
    have e := ints_dw ns _ ha
    subst e
    exact ⟨_, rfl, hs⟩
theorem dw_int {K : PySem.W.Frag} {H : Hp} {v : V} {i : Int} (x : Dw K H v (.int i)) : v = .int i := by
  cases x
  rfl
/-! ### the end: what the top has written -/
theorem all_mk {P : Program} {w : World} {K : PySem.W.Frag} {h : Heap} {mg : Str → Option Value} {fa f1 f2 : Addr} (X : K.In h) (G : h.Ns mainGlobals mg) (hfa : mg "walk" = some (.ref fa))
    {od1 an1 od2 an2 : Option Addr} {sl1 sl2 : Array (Option Value)} {oc1 kV1 dc1 pm1 cd1 ct1 oc2 kV2 dc2 pm2 cd2 ct2 : Value}
    (a1 : PySem.W.nsIn K mainGlobals "walked" = some (some (.ref f1))) (l1 : K.lookup f1 = some ⟨oc1, od1, .func (PySem.W.fnOf "walked" "walked" (defArgs sWalked) (defBody sWalked) (defScope sWalked) .none kV1 dc1 pm1 an1 cd1 ct1), sl1⟩) (c1 : PySem.W.codeIn K cd1 "walked" = true) (k1 : PySem.W.keepIn K (.ref f1) = true)
    (a2 : PySem.W.nsIn K mainGlobals "walk" = some (some (.ref f2))) (l2 : K.lookup f2 = some ⟨oc2, od2, .func (PySem.W.fnOf "walk" "walk" (defArgs sTop) (defBody sTop) (defScope sTop) .none kV2 dc2 pm2 an2 cd2 ct2), sl2⟩) (c2 : PySem.W.codeIn K cd2 "walk" = true) (k2 : PySem.W.keepIn K (.ref f2) = true)
    (z1 : PySem.W.nsIn K mainGlobals "len" = some none)
    (z2 : PySem.W.nsIn K mainGlobals "range" = some none)
    (z3 : PySem.W.nsIn K mainGlobals "list" = some none)
    {y1 : Tok} (g1 : PySem.W.nsIn K mainGlobals "LANES" = some (some (.int 16 y1)))
    : ∃ fd : FuncData, (∀ (s : Shared) (us : List Value), us.length = (["steps", "onward", "at"] : List Str).length → BindsTo s fd ⟨us, []⟩ ((["steps", "onward", "at"] : List Str).zip us)) ∧ ∀ base : Heap, K.In base → base.Ns mainGlobals mg → FnOk P w K mg base CX0 2 fa fd ["steps", "onward", "at"] (spTop K) := by
  have e := hfa.symm.trans (PySem.W.mg_of X G a2)
  cases e
  have F1 := fun_mk (st := sWalked) l1 c1 k1
  have F2 := fun_mk (st := sTop) l2 c2 k2
  have b1 := F1.binds (ps := ["steps", "onward", "places"]) fun _ _ _ _ _ _ us hl => match us, hl with | [_, _, _], _ => rfl
  exact ⟨PySem.W.fnOf "walk" "walk" (defArgs sTop) (defBody sTop) (defScope sTop) .none kV2 dc2 pm2 an2 cd2 ct2, fun s us hu => match us, hu with | [_, _, _], _ => .of_eq rfl, fun base _ _ => ok_top F2 F1 b1 (PySem.W.mg_of X G a1) (PySem.W.mg_none_of X G z1) (PySem.W.mg_none_of X G z2) (PySem.W.mg_none_of X G z3) (PySem.W.mg_of X G g1)⟩
end Wk
open PySem PySem.W PyProof.Rows
set_option maxRecDepth 100000 in
set_option maxHeartbeats 0 in
theorem PySem.Challenge.cw_placelists_s09_walk_holds : PySem.Challenge.rw_placelists_s09_walk.Holds := by
  w_on; k_headS; (case hw => exact ⟨[.int 0, .list [], .list (List.replicate 16 (.int 0))], by decide +kernel, by decide +kernel⟩)
  k_fillS
  refine L2.walk_specK (r := PySem.Challenge.rw_placelists_s09_walk) (k := 2) (CX := L2.CX0) (ps := ["steps", "onward", "at"]) (sp := Wk.spTop) (by decide +kernel) rfl rfl ⟨rfl, by decide, by decide⟩ (fun w h Y => PySem.W.kIn_of Y) ?F ?S (fun _ _ _ _ z => z)
  case F =>
    intro w mg fa h Y KX G hmg
    refine' Wk.all_mk KX G hmg ?a1 ?l1 ?c1 ?k1 ?a2 ?l2 ?c2 ?k2 ?z1 ?z2 ?z3 ?g1
    (case a1 => k_is)
    (case l1 => k_is)
    (case c1 => k_is)
    (case k1 => k_is)
    (case a2 => k_is)
    (case l2 => k_is)
    (case c2 => k_is)
    (case k2 => k_is)
    (case z1 => k_is)
    (case z2 => k_is)
    (case z3 => k_is)
    (case g1 => k_is)
  case S =>
    intro K H xs a hO hwi hask hx
    have q : (Codec.inInt 0 65535 a.1 && ((Codec.inLen 0 400 a.2.1 && a.2.1.all (Codec.inInt 0 4294967295)) && ((Codec.inLen 16 16 a.2.2.1 && a.2.2.1.all (Codec.inInt 0 4294967295)) && true))) = true := hwi
    have q0 := (Wk.and_two q).1
    have r0 := (Wk.and_two q).2
    have q1 := (Wk.and_two r0).1
    have r1 := (Wk.and_two r0).2
    have q2 := (Wk.and_two r1).1
    have r2 := (Wk.and_two r1).2
    have p0 := Codec.inInt_iff.mp q0
    have p1 := Wk.list_in q1
    have p2 := Wk.list_in q2
    obtain ⟨v0, vs0, rfl, h0, hx0⟩ := Wk.dw_cons hx
    obtain rfl := Wk.dw_int h0
    obtain ⟨v1, vs1, rfl, h1, hx1⟩ := Wk.dw_cons hx0
    obtain ⟨a1, rfl, s1⟩ := Wk.dw_list h1
    obtain ⟨v2, vs2, rfl, h2, hx2⟩ := Wk.dw_cons hx1
    obtain ⟨a2, rfl, s2⟩ := Wk.dw_list h2
    cases hx2
    exact Wk.top_of p0 p1 p2 s1 s2 hask fun H' p hp => .lst (L2.SqL.of hp) (L2.dw_ints _)
#print axioms PySem.Challenge.cw_placelists_s09_walk_holds
