import PyProof.Rows.All
import Wide.All
import OpenK.AllK
import Wide.FinOn
import Open.SpecLaws
import KE.OsHead
import KE.OsGo
import HandS.ForSpec
import HandS.ForMost
import PySem.Challenge.RW_placelists_s05_put64
set_option Elab.async false
set_option maxRecDepth 100000
set_option maxHeartbeats 2000000
namespace Pl
/-! plain mathematics: lists and numbers alone -/
def hmd (ps : List Int) (many : Int) : Nat := (ps.takeWhile fun p => decide (p < many)).length
def ix (t : List Int) (p : Int) : Int := t.getD p.toNat 0
def NN (l : List Int) : Prop := ∀ x ∈ l, 0 ≤ x
theorem NN.tail {x : Int} {l : List Int} (h : NN (x :: l)) : NN l := fun y hy => h y (List.mem_cons_of_mem _ hy)
theorem NN.head {x : Int} {l : List Int} (h : NN (x :: l)) : 0 ≤ x := h x (List.mem_cons_self ..)
theorem toNat_back {l : List Int} (h : NN l) : (l.map Int.toNat).map (fun (x : Nat) => (x : Int)) = l := by
  induction l with
  | nil => rfl
  | cons x r ih =>
    have e := ih h.tail
    rw [List.map_cons, List.map_cons, e, Int.toNat_of_nonneg h.head]
theorem ix_toNat {t : List Int} (h : NN t) (p : Int) : ix t p = (((t.map Int.toNat).getD p.toNat 0 : Nat) : Int) := by
  unfold ix
  rw [List.getD_eq_getElem?_getD, List.getD_eq_getElem?_getD, List.getElem?_map]
  cases e : t[p.toNat]? with
  | none => rfl
  | some z =>
    have := h z (List.mem_of_getElem? e)
    simp [Int.toNat_of_nonneg this]
theorem done_eq {at_ : List Int} (h : NN at_) (n : Nat) : Rc04.done n (at_.map Int.toNat) = hmd at_ (n : Int) := by
  unfold Rc04.done hmd
  induction at_ with
  | nil => rfl
  | cons p r ih =>
    have hp := h.head
    rw [List.map_cons, List.takeWhile_cons, List.takeWhile_cons]
    have e : (decide (p.toNat < n)) = decide (p < (n : Int)) := by
      by_cases c : p < (n : Int)
      · rw [decide_eq_true c, decide_eq_true (by omega)]
      · rw [decide_eq_false c, decide_eq_false (by omega)]
    rw [e]
    split
    · rw [List.length_cons, List.length_cons, ih h.tail]
    · rfl
theorem hmd_le (ps : List Int) (m : Int) : hmd ps m ≤ ps.length := by
  unfold hmd
  exact (List.takeWhile_sublist _).length_le
/-- the places that are done are below -/
theorem hmd_lt {ps : List Int} {m : Int} : ∀ {i : Nat} {p : Int}, i < hmd ps m → ps[i]? = some p → p < m := by
  unfold hmd
  induction ps with
  | nil =>
    intro i p h _
    simp at h
  | cons q r ih =>
    intro i p h e
    rw [List.takeWhile_cons] at h
    by_cases c : q < m
    · rw [decide_eq_true c] at h
      cases i with
      | zero =>
        simp at e
        omega
      | succ i =>
        simp at e h
        exact ih h e
    · rw [decide_eq_false c] at h
      simp at h
/-- how the loop finds it -/
theorem hmd_at {ps : List Int} {m : Int} : ∀ {i : Nat} {p : Int}, (∀ (j : Nat) (q : Int), j < i → ps[j]? = some q → q < m) → ps[i]? = some p → ¬ p < m → hmd ps m = i := by
  unfold hmd
  induction ps with
  | nil =>
    intro i p _ h _
    simp at h
  | cons q r ih =>
    intro i p ha e hn
    rw [List.takeWhile_cons]
    cases i with
    | zero =>
      simp at e
      subst e
      rw [decide_eq_false hn]
      rfl
    | succ i =>
      have c : q < m := ha 0 q (by omega) rfl
      rw [decide_eq_true c]
      have := ih (i := i) (p := p) (fun j q' hj he => ha (j + 1) q' (by omega) (by simpa using he)) (by simpa using e) hn
      simp only [if_true, List.length_cons]
      omega
theorem hmd_all {ps : List Int} {m : Int} (h : ∀ (j : Nat) (q : Int), ps[j]? = some q → q < m) : hmd ps m = ps.length := by
  unfold hmd
  induction ps with
  | nil => rfl
  | cons q r ih =>
    have c : q < m := h 0 q rfl
    rw [List.takeWhile_cons, decide_eq_true c]
    simp only [if_true, List.length_cons]
    rw [ih fun j q' he => h (j + 1) q' (by simpa using he)]
theorem take_succ_at {α : Type} : ∀ {l : List α} {i : Nat} {x : α}, l[i]? = some x → l.take (i + 1) = l.take i ++ [x]
  | [], i, x, h => by simp at h
  | a :: l, 0, x, h => by
    have e : a = x := Option.some.inj h
    subst e
    rfl
  | a :: l, i + 1, x, h => by
    have ih := take_succ_at (l := l) (i := i) (x := x) h
    show a :: l.take (i + 1) = a :: l.take i ++ [x]
    rw [ih]
    rfl
/-! reading a call's line -/
theorem list_app (l r : List Int) : Rc04Neutral.list ((l.length : Int) :: (l ++ r)) = some (l.map Int.toNat, r) := by
  show (if 0 ≤ (l.length : Int) ∧ ((l.length : Int)).toNat ≤ (l ++ r).length then some (((l ++ r).take ((l.length : Int)).toNat).map Int.toNat, (l ++ r).drop ((l.length : Int)).toNat) else none) = _
  rw [if_pos ⟨by omega, by simp⟩]
  simp
theorem list_end (l : List Int) : Rc04Neutral.list ((l.length : Int) :: l) = some (l.map Int.toNat, []) := by
  have := list_app l []
  rwa [List.append_nil] at this
def takenM (t at_ : List Int) : List Int := (hmd at_ t.length : Int) :: (at_.take (hmd at_ t.length)).map (ix t)
theorem take_out {t at_ : List Int} (ht : NN t) (ha : NN at_) :
    ((Rc04.done (t.map Int.toNat).length (at_.map Int.toNat) : Nat) : Int) :: (Rc04.take (t.map Int.toNat) (at_.map Int.toNat)).map (fun (x : Nat) => (x : Int)) = takenM t at_ := by
  unfold takenM Rc04.take
  rw [List.length_map, done_eq ha]
  refine congrArg _ ?_
  rw [← List.map_take, List.map_map, List.map_map]
  refine List.map_congr_left fun p _ => ?_
  exact (ix_toNat ht p).symm
theorem take32_is {t at_ : List Int} (ht : NN t) (ha : NN at_) : PyRc04.take32 t at_ = takenM t at_ := by
  have e : ∃ b, Rc04Neutral.callOf (0 :: ((t.length : Int) :: (t ++ ((t.length : Int) :: ((at_.length : Int) :: (at_ ++ [(at_.length : Int)])))))) = some (.take32 (t.map Int.toNat) (at_.map Int.toNat), b) := by
    unfold Rc04Neutral.callOf
    simp [list_app]
  obtain ⟨b, e⟩ := e
  unfold PyRc04.take32 Rc04Neutral.f
  simp only [List.cons_append, List.nil_append, List.append_assoc]
  rw [e]
  exact take_out ht ha
theorem take64_is {t at_ : List Int} (ht : NN t) (ha : NN at_) : PyRc04.take64 t at_ = takenM t at_ := by
  have e : ∃ b, Rc04Neutral.callOf (1 :: ((t.length : Int) :: (t ++ ((t.length : Int) :: ((at_.length : Int) :: (at_ ++ [(at_.length : Int)])))))) = some (.take64 (t.map Int.toNat) (at_.map Int.toNat), b) := by
    unfold Rc04Neutral.callOf
    simp [list_app]
  obtain ⟨b, e⟩ := e
  unfold PyRc04.take64 Rc04Neutral.f
  simp only [List.cons_append, List.nil_append, List.append_assoc]
  rw [e]
  exact take_out ht ha
end Pl
namespace Pl
def putL (join : Int → Int → Int) : List Int → List (Int × Int) → List Int
  | t, [] => t
  | t, (p, v) :: l => putL join (t.set p.toNat (join (ix t p) v)) l
theorem putL_len (join : Int → Int → Int) : ∀ (l : List (Int × Int)) (t : List Int), (putL join t l).length = t.length
  | [], _ => rfl
  | (p, v) :: l, t => by
    rw [putL, putL_len join l, List.length_set]
theorem putL_snoc (join : Int → Int → Int) : ∀ (l : List (Int × Int)) (t : List Int) (p v : Int), putL join t (l ++ [(p, v)]) = (putL join t l).set p.toNat (join (ix (putL join t l) p) v)
  | [], _, _, _ => rfl
  | (q, w) :: l, t, p, v => by
    rw [List.cons_append, putL, putL, putL_snoc join l]
theorem NN.set {t : List Int} (h : NN t) {x : Int} (hx : 0 ≤ x) (k : Nat) : NN (t.set k x) := fun y hy => by
  rcases List.mem_or_eq_of_mem_set hy with h1 | h1
  · exact h y h1
  · rw [h1]
    exact hx
theorem NN.ix {t : List Int} (h : NN t) (p : Int) : 0 ≤ ix t p := by
  rw [ix_toNat h]
  omega
theorem set_toNat (t : List Int) (k : Nat) (x : Int) : (t.set k x).map Int.toNat = (t.map Int.toNat).set k x.toNat := by
  rw [List.map_set]
theorem put_is (jn : Nat → Nat → Nat) (join : Int → Int → Int) (hj : ∀ x y : Int, 0 ≤ x → 0 ≤ y → 0 ≤ join x y ∧ jn x.toNat y.toNat = (join x y).toNat) :
    ∀ (a v t : List Int), NN a → NN v → NN t → (Rc04.put jn (t.map Int.toNat) ((a.map Int.toNat).zip (v.map Int.toNat))).map (fun (x : Nat) => (x : Int)) = putL join t ((a.zip v).take (hmd a t.length))
  | [], v, t, _, _, ht => by
    simp only [List.map_nil, List.zip_nil_left, List.take_nil, putL]
    rw [Rc04.put]
    exact toNat_back ht
  | p :: a, [], t, _, _, ht => by
    simp only [List.map_nil, List.zip_nil_right, List.take_nil, putL]
    rw [Rc04.put]
    exact toNat_back ht
  | p :: a, w :: v, t, ha, hv, ht => by
    have hp := ha.head
    have hw := hv.head
    rw [List.map_cons, List.map_cons, List.zip_cons_cons, List.zip_cons_cons, Rc04.put]
    unfold hmd
    rw [List.takeWhile_cons]
    by_cases c : p < (t.length : Int)
    · rw [if_pos (show p.toNat < (t.map Int.toNat).length by rw [List.length_map]; omega), decide_eq_true c]
      obtain ⟨j1, j2⟩ := hj (ix t p) w (ht.ix p) hw
      have e : (t.map Int.toNat).set p.toNat (jn ((t.map Int.toNat).getD p.toNat 0) w.toNat) = (t.set p.toNat (join (ix t p) w)).map Int.toNat := by
        rw [set_toNat, ← j2]
        have q : (ix t p).toNat = (t.map Int.toNat).getD p.toNat 0 := by
          rw [ix_toNat ht]
          omega
        rw [q]
      rw [e, put_is jn join hj a v _ ha.tail hv.tail (ht.set j1 _)]
      simp only [if_true, List.length_cons, List.take_succ_cons, putL, List.length_set]
      rfl
    · rw [if_neg (show ¬ p.toNat < (t.map Int.toNat).length by rw [List.length_map]; omega), decide_eq_false c]
      simp only [Bool.false_eq_true, if_false, List.length_nil, List.take_zero, putL]
      exact toNat_back ht
def jLast (_ v : Int) : Int := v
def jMost (x v : Int) : Int := if v > x then v else x
theorem jLast_ok : ∀ x y : Int, 0 ≤ x → 0 ≤ y → 0 ≤ jLast x y ∧ Rc04.last x.toNat y.toNat = (jLast x y).toNat := fun _ _ _ hy => ⟨hy, rfl⟩
theorem jMost_ok : ∀ x y : Int, 0 ≤ x → 0 ≤ y → 0 ≤ jMost x y ∧ max x.toNat y.toNat = (jMost x y).toNat := fun x y hx hy => by
  unfold jMost
  split <;> omega
def putM (join : Int → Int → Int) (t at_ v : List Int) : List Int := (hmd at_ t.length : Int) :: putL join t ((at_.zip v).take (hmd at_ t.length))
theorem put_out (jn : Nat → Nat → Nat) (join : Int → Int → Int) (hj : ∀ x y : Int, 0 ≤ x → 0 ≤ y → 0 ≤ join x y ∧ jn x.toNat y.toNat = (join x y).toNat) {t at_ v : List Int} (ht : NN t) (ha : NN at_) (hv : NN v) :
    ((Rc04.done (t.map Int.toNat).length (at_.map Int.toNat) : Nat) : Int) :: (Rc04.put jn (t.map Int.toNat) ((at_.map Int.toNat).zip (v.map Int.toNat))).map (fun (x : Nat) => (x : Int)) = putM join t at_ v := by
  unfold putM
  rw [List.length_map, done_eq ha, put_is jn join hj at_ v t ha hv ht]
theorem put32_is {t at_ v : List Int} (ht : NN t) (ha : NN at_) (hv : NN v) : PyRc04.put32 t at_ v = putM jLast t at_ v := by
  have e : ∃ b, Rc04Neutral.callOf (3 :: ((t.length : Int) :: (t ++ ((t.length : Int) :: ((at_.length : Int) :: (at_ ++ ((at_.length : Int) :: ((v.length : Int) :: v)))))))) = some (.put32 (t.map Int.toNat) (at_.map Int.toNat) (v.map Int.toNat), b) := by
    unfold Rc04Neutral.callOf
    simp [list_app, list_end]
  obtain ⟨b, e⟩ := e
  unfold PyRc04.put32 Rc04Neutral.f
  simp only [List.cons_append, List.nil_append, List.append_assoc]
  rw [e]
  exact put_out _ _ jLast_ok ht ha hv
theorem put64_is {t at_ v : List Int} (ht : NN t) (ha : NN at_) (hv : NN v) : PyRc04.put64 t at_ v = putM jLast t at_ v := by
  have e : ∃ b, Rc04Neutral.callOf (4 :: ((t.length : Int) :: (t ++ ((t.length : Int) :: ((at_.length : Int) :: (at_ ++ ((at_.length : Int) :: ((v.length : Int) :: v)))))))) = some (.put64 (t.map Int.toNat) (at_.map Int.toNat) (v.map Int.toNat), b) := by
    unfold Rc04Neutral.callOf
    simp [list_app, list_end]
  obtain ⟨b, e⟩ := e
  unfold PyRc04.put64 Rc04Neutral.f
  simp only [List.cons_append, List.nil_append, List.append_assoc]
  rw [e]
  exact put_out _ _ jLast_ok ht ha hv
theorem most32_is {t at_ v : List Int} (ht : NN t) (ha : NN at_) (hv : NN v) : PyRc04.most32 t at_ v = putM jMost t at_ v := by
  have e : ∃ b, Rc04Neutral.callOf (5 :: ((t.length : Int) :: (t ++ ((t.length : Int) :: ((at_.length : Int) :: (at_ ++ ((at_.length : Int) :: ((v.length : Int) :: v)))))))) = some (.most32 (t.map Int.toNat) (at_.map Int.toNat) (v.map Int.toNat), b) := by
    unfold Rc04Neutral.callOf
    simp [list_app, list_end]
  obtain ⟨b, e⟩ := e
  unfold PyRc04.most32 Rc04Neutral.f
  simp only [List.cons_append, List.nil_append, List.append_assoc]
  rw [e]
  exact put_out _ _ jMost_ok ht ha hv
theorem put32_asks {t at_ v : List Int} (h : PyRc04.put32_asked t at_ v = true) : at_.length = v.length := by
  unfold PyRc04.put32_asked Rc04Neutral.asked at h
  simp only [List.cons_append, List.nil_append, List.append_assoc] at h
  rw [Bool.and_eq_true] at h
  have h2 := h.2
  rw [List.all_cons, List.all_nil, Bool.and_true, Bool.and_eq_true] at h2
  have h3 := h2.2
  unfold Rc04Neutral.callOf at h3
  simp [list_app, list_end, Rc04Neutral.right] at h3
  omega
theorem put64_asks {t at_ v : List Int} (h : PyRc04.put64_asked t at_ v = true) : at_.length = v.length := by
  unfold PyRc04.put64_asked Rc04Neutral.asked at h
  simp only [List.cons_append, List.nil_append, List.append_assoc] at h
  rw [Bool.and_eq_true] at h
  have h2 := h.2
  rw [List.all_cons, List.all_nil, Bool.and_true, Bool.and_eq_true] at h2
  have h3 := h2.2
  unfold Rc04Neutral.callOf at h3
  simp [list_app, list_end, Rc04Neutral.right] at h3
  omega
theorem most32_asks {t at_ v : List Int} (h : PyRc04.most32_asked t at_ v = true) : at_.length = v.length := by
  unfold PyRc04.most32_asked Rc04Neutral.asked at h
  simp only [List.cons_append, List.nil_append, List.append_assoc] at h
  rw [Bool.and_eq_true] at h
  have h2 := h.2
  rw [List.all_cons, List.all_nil, Bool.and_true, Bool.and_eq_true] at h2
  have h3 := h2.2
  unfold Rc04Neutral.callOf at h3
  simp [list_app, list_end, Rc04Neutral.right] at h3
  omega
end Pl
namespace Wk
open PySem PySem.Spec PyProof.Rows L2
open PySem.W (Codec)
def topS (i : Nat) : Stmt := PySem.Challenge.pw_placelists_s05_put64.main.body.getD i (.Pass ⟨0, 0, 0, 0⟩)
abbrev sHmd : Stmt := topS 1
abbrev sDone : Stmt := topS 2
abbrev sPut : Stmt := topS 4
abbrev sTop : Stmt := topS 6
/-! ### the heap: helpers -/
theorem same_upd {H : Hp} {p : Addr} {o : HO} (h : H p = none) : Same H (upd H p o) := fun b x e => by
  rw [upd_ne (ne_of_none e h)]
  exact e
/-- an object new since H stands changed: H is as it was -/
theorem same_put {H H1 : Hp} {p : Addr} {o : HO} (s : Same H H1) (h : H p = none) : Same H (upd H1 p o) := fun b x e => by
  rw [upd_ne (ne_of_none e h)]
  exact s _ _ e
theorem line_le {n : Nat} (h : n ≤ 1048576) : n ≤ sizeLine := Nat.le_trans h (by decide)
theorem line_lt {n : Nat} (h : n < 1048576) : n < sizeLine := Nat.lt_of_lt_of_le h (by decide)
theorem if_true_of {c : Bool} {A B : Prop} (hc : c = true) (h : A) : if c = true then A else B := by
  rw [if_pos hc]
  exact h
theorem if_false_of {c : Bool} {A B : Prop} (hc : c = false) (h : B) : if c = true then A else B := by
  rw [hc, if_neg Bool.false_ne_true]
  exact h
theorem ints_get {ns : List Int} {i : Nat} {y : V} (h : (ns.map V.int)[i]? = some y) : ∃ z, ns[i]? = some z ∧ y = V.int z := by
  rw [List.getElem?_map] at h
  cases e : ns[i]? with
  | none =>
    rw [e] at h
    cases h
  | some z =>
    rw [e] at h
    exact ⟨z, rfl, (Option.some.inj h).symm⟩
theorem ints_at {ns : List Int} {i : Nat} {z : Int} (h : ns[i]? = some z) : (ns.map V.int)[i]? = some (V.int z) := by
  rw [List.getElem?_map, h]
  rfl
theorem ints_set (ns : List Int) (i : Nat) (z : Int) : (ns.map V.int).set i (V.int z) = (ns.set i z).map V.int := by
  rw [List.map_set]
/-- the item at a place that is not negative -/
theorem at_ix {ns : List Int} {p : Int} (h0 : 0 ≤ p) (h1 : p < (ns.length : Int)) : atI (ns.map V.int) p = some (V.int (Pl.ix ns p)) := by
  refine at_of (j := p.toNat) (Int.toNat_of_nonneg h0).symm ?_
  refine ints_at ?_
  have hl : p.toNat < ns.length := by omega
  unfold Pl.ix
  rw [List.getD_eq_getElem?_getD, List.getElem?_eq_getElem hl]
  rfl
/-- a comprehension without a test goes on -/
theorem yes_if {σ : L2.St} {H : Hp} {A B : Hp → Prop} (h : A H) : tYes σ H fun b H3 => if b = true then A H3 else B H3 := by
  show if true = true then A H else B H
  rw [if_pos rfl]
  exact h
/-! ### how_many_done, done -/
theorem scHmd : FnScope ["places", "many", "k"] ["places", "many"] (defScope sHmd) := ⟨rfl, rfl, rfl, by decide +kernel, rfl, by decide +kernel, by decide +kernel⟩
def spHmd (K : PySem.W.Frag) : Sp := fun vs H Q _ => ∃ (a : Addr) (ps : List Int) (m : Int), vs = [.ref a, .int m] ∧ SqL K H a (ps.map V.int) ∧ ps.length ≤ 25600 ∧ Q (.int (Pl.hmd ps m)) H
theorem ok_hmd {P : Program} {w : World} {K : PySem.W.Frag} {mg : Str → Option Value} {base : Heap} {f : Addr} {fd : FuncData} (F : Fun K "how_many_done" "how_many_done" sHmd f fd) (ml : mg "len" = none) (mr : mg "range" = none) : FnOk P w K mg base CX0 1 f fd ["places", "many"] (spHmd K) := by
  refine F.ok scHmd (fun vs H Q E h => ?_) (fun cdv A outer s H vs Q E hr h => ?_)
  · obtain ⟨a, ps, m, rfl, _⟩ := h
    rfl
  · obtain ⟨a, ps, m, rfl, hS, hl, q⟩ := h
    refine ⟨_, pss_cons (ps_for PassesOwn.never rfl (pi_range1 (by rfl) mr (pa_cons (pe_callB call_len_seq (by rfl) ml PySem.boot_len (pa_cons (pv 0) pa_nil)) pa_nil)) (pg_name (i := 2) scHmd.nd rfl (.inl rfl))
        (pss_one (ps_if (pt_cmpR op_ge (pe_ix ix_list (pv 0) (pv 2) (fun _ _ => rfl)) (pv 1) (nomark _)) (pss_one (ps_ret (pv 2))) pss_nil)))
      (pss_one (ps_ret (pe_callB call_len_seq (by rfl) ml PySem.boot_len (pa_cons (pv 0) pa_nil)))), ?_⟩
    have hl2 : ((ps.map V.int).length : Int) = (ps.length : Int) := by rw [List.length_map]
    refine ⟨_, rfl, a, _, rfl, .inl hS, _, rfl, (by rw [hl2]; omega), (by rw [hl2]; omega), ?_⟩
    rw [List.length_map, Int.toNat_natCast]
    refine for_range (lo := 0) (n := ps.length) (fun i σ H' => ∃ v : Option V, σ = [some (.ref a), some (.int m), v] ∧ H' = H ∧ ∀ (j : Nat) (p : Int), j < i → ps[j]? = some p → p < m)
      ⟨none, rfl, rfl, fun j p h _ => absurd h (by omega)⟩ ?_ ?_
    · rintro i σ H' hi ⟨v, rfl, rfl, hb⟩
      obtain ⟨p, hp⟩ : ∃ p, ps[i]? = some p := ⟨_, List.getElem?_eq_getElem hi⟩
      refine ⟨_, rfl, _, rfl, a, _, _, V.int p, rfl, rfl, hS, at_of (j := i) (by omega) (ints_at hp), _, rfl, p, m, rfl, rfl, _, rfl, ?_⟩
      by_cases c : m ≤ p
      · refine if_true_of (decide_eq_true c) ?_
        refine ⟨_, rfl, ?_⟩
        have e := Pl.hmd_at (m := m) hb hp (by omega)
        rw [e] at q
        rw [Int.zero_add]
        exact q
      · refine if_false_of (decide_eq_false c) ?_
        refine ⟨_, rfl, rfl, fun j p' hj hp' => ?_⟩
        by_cases e : j = i
        · subst e
          rw [hp] at hp'
          cases hp'
          omega
        · exact hb j p' (by omega) hp'
    · rintro σ H' ⟨v, rfl, rfl, hb⟩
      refine ⟨_, rfl, a, _, rfl, .inl hS, ?_⟩
      rw [List.length_map]
      have e := Pl.hmd_all (ps := ps) (m := m) fun j p' hp' => hb j p' (List.getElem?_eq_some_iff.mp hp').1 hp'
      rw [e] at q
      exact q
theorem scDone : FnScope ["places", "many"] ["places", "many"] (defScope sDone) := ⟨rfl, rfl, rfl, by decide +kernel, rfl, by decide +kernel, by decide +kernel⟩
def spDone (K : PySem.W.Frag) : Sp := fun vs H Q _ => ∃ (a : Addr) (ps : List Int) (m : Int), vs = [.ref a, .int m] ∧ SqL K H a (ps.map V.int) ∧ ps.length ≤ 25600 ∧
  ∀ p, H p = none → Q (.ref p) (upd H p (.lst ((ps.take (Pl.hmd ps m)).map V.int)))
theorem cut_to {xs : List V} {k : Nat} : cutV xs none (some (k : Int)) = xs.take k := by
  unfold cutV
  rw [HT.sIx_nat, HT.sIx_none, Nat.sub_zero, List.drop_zero]
  by_cases h : k ≤ xs.length
  · rw [Nat.min_eq_left h]
  · rw [Nat.min_eq_right (by omega), List.take_length, List.take_of_length_le (by omega)]
theorem ok_done {P : Program} {w : World} {K : PySem.W.Frag} {mg : Str → Option Value} {base : Heap} {f fH : Addr} {fd fdH : FuncData} (F : Fun K "done" "done" sDone f fd) (FH : Fun K "how_many_done" "how_many_done" sHmd fH fdH) (bH : Binds K fdH ["places", "many"] []) (gH : mg "how_many_done" = some (.ref fH)) (ml : mg "len" = none) (mr : mg "range" = none) : FnOk P w K mg base CX0 2 f fd ["places", "many"] (spDone K) := by
  have GH : FnOk P w K mg base CX0 1 fH fdH ["places", "many"] (spHmd K) := ok_hmd FH ml mr
  refine F.ok scDone (fun vs H Q E h => ?_) (fun cdv A outer s H vs Q E hr h => ?_)
  · obtain ⟨a, ps, m, rfl, _⟩ := h
    rfl
  · obtain ⟨a, ps, m, rfl, hS, hl, q⟩ := h
    refine ⟨_, pss_one (ps_ret (pe_slice sl_list (pv 0) po_none (po_some (pe_call GH hr (by rfl) gH FH.kp bH .nil pass0 (pa_cons (pv 0) (pa_cons (pv 1) pa_nil)))))), ?_⟩
    refine ⟨_, rfl, _, rfl, _, rfl, a, ps, m, rfl, hS, hl, _, rfl, a, _, rfl, hS, fun p np => ?_⟩
    rw [cut_to, ← List.map_take]
    exact q p np
/-! ### put -/
theorem scPut : FnScope ["table", "places", "numbers", "here", "found", "k"] ["table", "places", "numbers"] (defScope sPut) := ⟨rfl, rfl, rfl, by decide +kernel, rfl, by decide +kernel, by decide +kernel⟩
def spPut (K : PySem.W.Frag) : Sp := fun xs H Q _ => ∃ (a b c : Addr) (ts ps vs : List Int), xs = [.ref a, .ref b, .ref c] ∧ SqL K H a (ts.map V.int) ∧ SqL K H b (ps.map V.int) ∧ SqL K H c (vs.map V.int) ∧ ts.length ≤ 25600 ∧ ps.length ≤ 25600 ∧ ps.length = vs.length ∧ Pl.NN ps ∧
  ∀ H' p, Same H H' → H p = none → H' p = some (.lst ((Pl.putM Pl.jLast ts ps vs).map V.int)) → Q (.ref p) H'
theorem ok_put {P : Program} {w : World} {K : PySem.W.Frag} {mg : Str → Option Value} {base : Heap} {f fD : Addr} {fd fdD : FuncData} (F : Fun K "put" "put" sPut f fd) (FD : Fun K "done" "done" sDone fD fdD) (bD : Binds K fdD ["places", "many"] []) (gD : mg "done" = some (.ref fD)) (ml : mg "len" = none) (mr : mg "range" = none) (mli : mg "list" = none)
    (GD : FnOk P w K mg base CX0 2 fD fdD ["places", "many"] (spDone K)) : FnOk P w K mg base CX0 3 f fd ["table", "places", "numbers"] (spPut K) := by
  refine F.ok scPut (fun vs H Q E h => ?_) (fun cdv A outer s H vs Q E hr h => ?_)
  · obtain ⟨a, b, c, ts, ps, vs, rfl, _⟩ := h
    rfl
  · obtain ⟨a, b, c, ts, ps, vs, rfl, hT, hS, hV, hlt, hlp, hlv, nn, q⟩ := h
    refine ⟨_, pss_cons (ps_set (i := 3) scPut.nd rfl (.inl rfl) (pe_call GD hr (by rfl) gD FD.kp bD .nil pass0 (pa_cons (pv 1) (pa_cons (pe_callB call_len_seq (by rfl) ml PySem.boot_len (pa_cons (pv 0) pa_nil)) pa_nil))))
      (pss_cons (ps_set (i := 4) scPut.nd rfl (.inl rfl) (pe_callTy call_list_of (by rfl) mli (by decide +kernel) (pa_cons (pv 0) pa_nil)))
      (pss_cons (ps_for PassesOwn.never rfl (pi_range1 (by rfl) mr (pa_cons (pe_callB call_len_seq (by rfl) ml PySem.boot_len (pa_cons (pv 3) pa_nil)) pa_nil)) (pg_name (i := 5) scPut.nd rfl (.inl rfl))
        (pss_one (ps_asg (pe_ix ix_list (pv 2) (pv 5) (fun _ _ => rfl))
          (pg_sub (pv 4) (pe_ix ix_list (pv 3) (pv 5) (fun _ _ => rfl)) set_list))))
      (pss_one (ps_ret (pe_op op_cat (pe_lst (pa_cons (pe_callB call_len_seq (by rfl) ml PySem.boot_len (pa_cons (pv 3) pa_nil)) pa_nil)) (pv 4)))))), ?_⟩
    have hl2 : ((ts.map V.int).length : Int) = (ts.length : Int) := by rw [List.length_map]
    -- here = done(places, len(table))
    refine ⟨_, rfl, _, rfl, a, _, rfl, .inl hT, b, ps, _, rfl, hS, hlp, fun h nh => ?_⟩
    rw [hl2]
    have hle := Pl.hmd_le ps (ts.length : Int)
    have s1 : Same H (upd H h (.lst ((ps.take (Pl.hmd ps (ts.length : Int))).map V.int))) := same_upd nh
    -- found = list(table)
    refine ⟨_, rfl, a, _, rfl, .inl (s1.seq hT), fun g ng => ?_⟩
    have nhg : h ≠ g := ne_of_none upd_same ng
    have ngH : H g = none := s1.free ng
    have s2 : Same H (upd (upd H h (.lst ((ps.take (Pl.hmd ps (ts.length : Int))).map V.int))) g (.lst (ts.map V.int))) := same_put s1 ngH
    have eh : (upd (upd H h (.lst ((ps.take (Pl.hmd ps (ts.length : Int))).map V.int))) g (.lst (ts.map V.int))) h = some (.lst ((ps.take (Pl.hmd ps (ts.length : Int))).map V.int)) := by
      rw [upd_ne nhg, upd_same]
    have hlk : ((ps.take (Pl.hmd ps (ts.length : Int))).map V.int).length = Pl.hmd ps (ts.length : Int) := by
      rw [List.length_map, List.length_take]
      omega
    -- the loop
    refine ⟨_, rfl, h, _, rfl, .inl (SqL.of eh), _, rfl, (by rw [hlk]; omega), (by rw [hlk]; omega), ?_⟩
    rw [hlk, Int.toNat_natCast]
    refine for_range (lo := 0) (n := Pl.hmd ps (ts.length : Int)) (fun i σ H' => ∃ v : Option V, σ = [some (.ref a), some (.ref b), some (.ref c), some (.ref h), some (.ref g), v] ∧ Same H H' ∧ H' h = some (.lst ((ps.take (Pl.hmd ps (ts.length : Int))).map V.int)) ∧ H' g = some (.lst ((Pl.putL Pl.jLast ts ((ps.zip vs).take i)).map V.int)))
      ⟨none, rfl, s2, eh, upd_same⟩ ?_ ?_
    · rintro i σ H' hi ⟨v0, rfl, s5, e5, g5⟩
      obtain ⟨p, hp⟩ : ∃ p, ps[i]? = some p := ⟨_, List.getElem?_eq_getElem (by omega)⟩
      obtain ⟨v, hv⟩ : ∃ v, vs[i]? = some v := ⟨_, List.getElem?_eq_getElem (by omega)⟩
      have hp0 : 0 ≤ p := nn p (List.mem_of_getElem? hp)
      have hpt : p < (ts.length : Int) := Pl.hmd_lt hi hp
      have hpk : (ps.take (Pl.hmd ps (ts.length : Int)))[i]? = some p := by
        rw [List.getElem?_take, if_pos hi]
        exact hp
      have hz : (ps.zip vs)[i]? = some (p, v) := List.getElem?_zip_eq_some.mpr ⟨hp, hv⟩
      have hln : (Pl.putL Pl.jLast ts ((ps.zip vs).take i)).length = ts.length := Pl.putL_len _ _ _
      refine ⟨_, rfl, _, rfl, c, _, _, _, rfl, rfl, s5.seq hV, at_of (j := i) (by omega) (ints_at hv), ?_⟩
      refine ⟨_, rfl, _, rfl, _, rfl, h, _, _, _, rfl, rfl, SqL.of e5, at_of (j := i) (by omega) (ints_at hpk), g, _, _, p.toNat, rfl, rfl, g5, ?_, ?_⟩
      · unfold ixN
        rw [if_pos hp0, if_pos (by rw [List.length_map, hln]; exact hpt)]
      · refine ⟨_, rfl, same_put s5 ngH, ?_, ?_⟩
        · rw [upd_ne nhg]
          exact e5
        · rw [upd_same, Pl.take_succ_at hz, Pl.putL_snoc]
          exact congrArg (fun z => some (HO.lst z)) (ints_set _ _ _)
    · rintro σ H' ⟨v0, rfl, s5, e5, g5⟩
      refine ⟨_, rfl, h, _, rfl, .inl (SqL.of e5), (by show 1 ≤ sizeLine; decide), fun l nl => ?_⟩
      have nhl : h ≠ l := ne_of_none e5 nl
      have ngl : g ≠ l := ne_of_none g5 nl
      refine ⟨_, rfl, l, g, _, _, rfl, rfl, upd_same, (by rw [upd_ne ngl]; exact g5), ?_, fun p np => ?_⟩
      · simp only [List.length_map, List.length_cons, List.length_nil, Pl.putL_len]
        exact line_le (by omega)
      · have s6 := same_put (o := .lst [V.int (((ps.take (Pl.hmd ps (ts.length : Int))).map V.int).length : Int)]) s5 (s5.free nl)
        refine q _ p (same_put s6 (s6.free np)) (s6.free np) ?_
        rw [upd_same]
        unfold Pl.putM
        rw [hlk]
        rfl
/-! ### put64 -/
theorem scTop : FnScope ["t", "at", "v"] ["t", "at", "v"] (defScope sTop) := ⟨rfl, rfl, rfl, by decide +kernel, rfl, by decide +kernel, by decide +kernel⟩
def spTop (K : PySem.W.Frag) : Sp := fun xs H Q _ => ∃ (a b c : Addr) (ts ps vs : List Int), xs = [.ref a, .ref b, .ref c] ∧ SqL K H a (ts.map V.int) ∧ SqL K H b (ps.map V.int) ∧ SqL K H c (vs.map V.int) ∧ ts.length ≤ 400 ∧ ps.length ≤ 400 ∧ ps.length = vs.length ∧ Pl.NN ts ∧ Pl.NN ps ∧ Pl.NN vs ∧
  ∀ (H' : Hp) (p : Addr), H' p = some (.lst ((PyRc04.put64 ts ps vs).map V.int)) → Q (.ref p) H'
theorem ok_top {P : Program} {w : World} {K : PySem.W.Frag} {mg : Str → Option Value} {base : Heap} {f f1 f2 f3 : Addr} {fd fd1 fd2 fd3 : FuncData} (F : Fun K "put64" "put64" sTop f fd)
    (F1 : Fun K "how_many_done" "how_many_done" sHmd f1 fd1) (b1 : Binds K fd1 ["places", "many"] []) (g1 : mg "how_many_done" = some (.ref f1))
    (F2 : Fun K "done" "done" sDone f2 fd2) (b2 : Binds K fd2 ["places", "many"] []) (g2 : mg "done" = some (.ref f2))
    (F3 : Fun K "put" "put" sPut f3 fd3) (b3 : Binds K fd3 ["table", "places", "numbers"] []) (g3 : mg "put" = some (.ref f3)) (ml : mg "len" = none) (mr : mg "range" = none) (mli : mg "list" = none) : FnOk P w K mg base CX0 4 f fd ["t", "at", "v"] (spTop K) := by
  have G3 : FnOk P w K mg base CX0 3 f3 fd3 ["table", "places", "numbers"] (spPut K) := ok_put F3 F2 b2 g2 ml mr mli (ok_done F2 F1 b1 g1 ml mr)
  refine F.ok scTop (fun vs H Q E h => ?_) (fun cdv A outer s H vs Q E hr h => ?_)
  · obtain ⟨a, b, c, ts, ps, vs, rfl, _⟩ := h
    rfl
  · obtain ⟨a, b, c, ts, ps, vs, rfl, hT, hS, hV, hlt, hlp, hlv, nt, np, nv, q⟩ := h
    refine ⟨_, pss_one (ps_ret (pe_call G3 hr (by rfl) g3 F3.kp b3 .nil pass0 (pa_cons (pv 0) (pa_cons (pv 1) (pa_cons (pv 2) pa_nil))))), ?_⟩
    refine ⟨_, rfl, _, rfl, _, rfl, a, b, c, ts, ps, vs, rfl, hT, hS, hV, by omega, by omega, hlv, np, fun H' p _ _ hp => ?_⟩
    rw [← Pl.put64_is nt np nv] at hp
    exact q H' p hp
theorem top_of {K : PySem.W.Frag} {H : Hp} {Q : V → Hp → Prop} {E : XK} {a b c : Addr} {ts ps vs : List Int} (pt : 0 ≤ ts.length ∧ ts.length ≤ 400 ∧ Pl.NN ts) (pp : 0 ≤ ps.length ∧ ps.length ≤ 400 ∧ Pl.NN ps) (pw : 0 ≤ vs.length ∧ vs.length ≤ 400 ∧ Pl.NN vs) (st : SqL K H a (ts.map V.int)) (ss : SqL K H b (ps.map V.int)) (sv : SqL K H c (vs.map V.int))
    (ask : PyRc04.put64_asked ts ps vs = true) (k : ∀ (H' : Hp) (p : Addr), H' p = some (.lst ((PyRc04.put64 ts ps vs).map V.int)) → Q (.ref p) H') : spTop K [.ref a, .ref b, .ref c] H Q E :=
  ⟨a, b, c, ts, ps, vs, rfl, st, ss, sv, pt.2.1, pp.2.1, Pl.put64_asks ask, pt.2.2, pp.2.2, pw.2.2, k⟩
/-! ### reading the request -/
theorem and_two {a b : Bool} (h : (a && b) = true) : a = true ∧ b = true := Bool.and_eq_true_iff.mp h
theorem list_in {least most : Nat} {hi : Int} {l : List Int} (h : (Codec.inLen least most l && l.all (Codec.inInt 0 hi)) = true) : least ≤ l.length ∧ l.length ≤ most ∧ Pl.NN l := by
  have h1 := Codec.inNat_iff.mp (and_two h).1
  refine ⟨h1.1, h1.2, fun x hx => ?_⟩
  exact (Codec.inInt_iff.mp (List.all_eq_true.mp (and_two h).2 x hx)).1
theorem dw_cons {K : PySem.W.Frag} {H : Hp} {xs : List V} {d : PySem.W.WData} {ds : List PySem.W.WData} (x : DwAll K H xs (d :: ds)) : ∃ v vs, xs = v :: vs ∧ Dw K H v d ∧ DwAll K H vs ds := by
  cases x with
  | cons a b => exact ⟨_, _, rfl, a, b⟩
theorem dw_list {K : PySem.W.Frag} {H : Hp} {v : V} {ns : List Int} (x : Dw K H v (.list (ns.map PySem.W.WData.int))) : ∃ a, v = .ref a ∧ SqL K H a (ns.map V.int) := by
  cases x with
  | lst hs ha =>
    have e := ints_dw ns _ ha
    subst e
    exact ⟨_, rfl, hs⟩
theorem dw_int {K : PySem.W.Frag} {H : Hp} {v : V} {i : Int} (x : Dw K H v (.int i)) : v = .int i := by
  cases x
  rfl
/-! ### the end: what the top has written -/
theorem all_mk {P : Program} {w : World} {K : PySem.W.Frag} {h : Heap} {mg : Str → Option Value} {fa f1 f2 f3 f4 : Addr} (X : K.In h) (G : h.Ns mainGlobals mg) (hfa : mg "put64" = some (.ref fa))
    {od1 an1 od2 an2 od3 an3 od4 an4 : Option Addr} {sl1 sl2 sl3 sl4 : Array (Option Value)} {oc1 kV1 dc1 pm1 cd1 ct1 oc2 kV2 dc2 pm2 cd2 ct2 oc3 kV3 dc3 pm3 cd3 ct3 oc4 kV4 dc4 pm4 cd4 ct4 : Value}
    (a1 : PySem.W.nsIn K mainGlobals "how_many_done" = some (some (.ref f1))) (l1 : K.lookup f1 = some ⟨oc1, od1, .func (PySem.W.fnOf "how_many_done" "how_many_done" (defArgs sHmd) (defBody sHmd) (defScope sHmd) .none kV1 dc1 pm1 an1 cd1 ct1), sl1⟩) (c1 : PySem.W.codeIn K cd1 "how_many_done" = true) (k1 : PySem.W.keepIn K (.ref f1) = true)
    (a2 : PySem.W.nsIn K mainGlobals "done" = some (some (.ref f2))) (l2 : K.lookup f2 = some ⟨oc2, od2, .func (PySem.W.fnOf "done" "done" (defArgs sDone) (defBody sDone) (defScope sDone) .none kV2 dc2 pm2 an2 cd2 ct2), sl2⟩) (c2 : PySem.W.codeIn K cd2 "done" = true) (k2 : PySem.W.keepIn K (.ref f2) = true)
    (a3 : PySem.W.nsIn K mainGlobals "put" = some (some (.ref f3))) (l3 : K.lookup f3 = some ⟨oc3, od3, .func (PySem.W.fnOf "put" "put" (defArgs sPut) (defBody sPut) (defScope sPut) .none kV3 dc3 pm3 an3 cd3 ct3), sl3⟩) (c3 : PySem.W.codeIn K cd3 "put" = true) (k3 : PySem.W.keepIn K (.ref f3) = true)
    (a4 : PySem.W.nsIn K mainGlobals "put64" = some (some (.ref f4))) (l4 : K.lookup f4 = some ⟨oc4, od4, .func (PySem.W.fnOf "put64" "put64" (defArgs sTop) (defBody sTop) (defScope sTop) .none kV4 dc4 pm4 an4 cd4 ct4), sl4⟩) (c4 : PySem.W.codeIn K cd4 "put64" = true) (k4 : PySem.W.keepIn K (.ref f4) = true)
    (z1 : PySem.W.nsIn K mainGlobals "len" = some none)
    (z2 : PySem.W.nsIn K mainGlobals "range" = some none)
    (z3 : PySem.W.nsIn K mainGlobals "list" = some none)
    : ∃ fd : FuncData, (∀ (s : Shared) (us : List Value), us.length = (["t", "at", "v"] : List Str).length → BindsTo s fd ⟨us, []⟩ ((["t", "at", "v"] : List Str).zip us)) ∧ ∀ base : Heap, K.In base → base.Ns mainGlobals mg → FnOk P w K mg base CX0 4 fa fd ["t", "at", "v"] (spTop K) := by
  have e := hfa.symm.trans (PySem.W.mg_of X G a4)
  cases e
  have F1 := fun_mk (st := sHmd) l1 c1 k1
  have F2 := fun_mk (st := sDone) l2 c2 k2
  have F3 := fun_mk (st := sPut) l3 c3 k3
  have F4 := fun_mk (st := sTop) l4 c4 k4
  have b1 := F1.binds (ps := ["places", "many"]) fun _ _ _ _ _ _ us hl => match us, hl with | [_, _], _ => rfl
  have b2 := F2.binds (ps := ["places", "many"]) fun _ _ _ _ _ _ us hl => match us, hl with | [_, _], _ => rfl
  have b3 := F3.binds (ps := ["table", "places", "numbers"]) fun _ _ _ _ _ _ us hl => match us, hl with | [_, _, _], _ => rfl
  exact ⟨PySem.W.fnOf "put64" "put64" (defArgs sTop) (defBody sTop) (defScope sTop) .none kV4 dc4 pm4 an4 cd4 ct4, fun s us hu => match us, hu with | [_, _, _], _ => .of_eq rfl, fun base _ _ => ok_top F4 F1 b1 (PySem.W.mg_of X G a1) F2 b2 (PySem.W.mg_of X G a2) F3 b3 (PySem.W.mg_of X G a3) (PySem.W.mg_none_of X G z1) (PySem.W.mg_none_of X G z2) (PySem.W.mg_none_of X G z3)⟩
end Wk
open PySem PySem.W PyProof.Rows
set_option maxRecDepth 100000 in
set_option maxHeartbeats 0 in
theorem PySem.Challenge.cw_placelists_s05_put64_holds : PySem.Challenge.rw_placelists_s05_put64.Holds := by
  w_on; k_headS; (case hw => exact ⟨[.list [], .list [], .list []], by decide +kernel, by decide +kernel⟩)
  k_fillS
  refine L2.walk_specK (r := PySem.Challenge.rw_placelists_s05_put64) (k := 4) (CX := L2.CX0) (ps := ["t", "at", "v"]) (sp := Wk.spTop) (by decide +kernel) rfl rfl ⟨rfl, by decide, by decide⟩ (fun w h Y => PySem.W.kIn_of Y) ?F ?S (fun _ _ _ _ z => z)
  case F =>
    intro w mg fa h Y KX G hmg
    refine' Wk.all_mk KX G hmg ?a1 ?l1 ?c1 ?k1 ?a2 ?l2 ?c2 ?k2 ?a3 ?l3 ?c3 ?k3 ?a4 ?l4 ?c4 ?k4 ?z1 ?z2 ?z3
    (case a1 => k_is)
    (case l1 => k_is)
    (case c1 => k_is)
    (case k1 => k_is)
    (case a2 => k_is)
    (case l2 => k_is)
    (case c2 => k_is)
    (case k2 => k_is)
    (case a3 => k_is)
    (case l3 => k_is)
    (case c3 => k_is)
    (case k3 => k_is)
    (case a4 => k_is)
    (case l4 => k_is)
    (case c4 => k_is)
    (case k4 => k_is)
    (case z1 => k_is)
    (case z2 => k_is)
    (case z3 => k_is)
  case S =>
    intro K H xs a hO hwi hask hx
    have q : ((Codec.inLen 0 400 a.1 && a.1.all (Codec.inInt 0 18446744073709551615)) && ((Codec.inLen 0 400 a.2.1 && a.2.1.all (Codec.inInt 0 4294967295)) && ((Codec.inLen 0 400 a.2.2.1 && a.2.2.1.all (Codec.inInt 0 18446744073709551615)) && true))) = true := hwi
    have q0 := (Wk.and_two q).1
    have r0 := (Wk.and_two q).2
    have q1 := (Wk.and_two r0).1
    have r1 := (Wk.and_two r0).2
    have q2 := (Wk.and_two r1).1
    have r2 := (Wk.and_two r1).2
    have p0 := Wk.list_in q0
    have p1 := Wk.list_in q1
    have p2 := Wk.list_in q2
    obtain ⟨v0, vs0, rfl, h0, hx0⟩ := Wk.dw_cons hx
    obtain ⟨a0, rfl, s0⟩ := Wk.dw_list h0
    obtain ⟨v1, vs1, rfl, h1, hx1⟩ := Wk.dw_cons hx0
    obtain ⟨a1, rfl, s1⟩ := Wk.dw_list h1
    obtain ⟨v2, vs2, rfl, h2, hx2⟩ := Wk.dw_cons hx1
    obtain ⟨a2, rfl, s2⟩ := Wk.dw_list h2
    cases hx2
    exact Wk.top_of p0 p1 p2 s0 s1 s2 hask fun H' p hp => .lst (L2.SqL.of hp) (L2.dw_ints _)
#print axioms PySem.Challenge.cw_placelists_s05_put64_holds
