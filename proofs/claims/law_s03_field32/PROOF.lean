import PyProof.Rows.All
import Wide.All
import OpenK.AllK
import Wide.FinOn
import Open.SpecLaws
import KE.OsHead
import KE.OsGo
import HandS.ForSpec
import HandS.ForMost
import PySem.Challenge.RW_placelists_s03_field32
set_option Elab.async false
set_option maxRecDepth 100000
set_option maxHeartbeats 2000000
namespace Pl
/-! plain mathematics: lists and numbers alone -/
def hmd (ps : List Int) (many : Int) : Nat := (ps.takeWhile fun p => decide (p < many)).length
def ix (t : List Int) (p : Int) : Int := t.getD p.toNat 0
def NN (l : List Int) : Prop := ∀ x ∈ l, 0 ≤ x
theorem NN.tail {x : Int} {l : List Int} (h : NN (x :: l)) : NN l := fun y hy => h y (List.mem_cons_of_mem _ hy)
theorem NN.head {x : Int} {l : List Int} (h : NN (x :: l)) : 0 ≤ x := h x (List.mem_cons_self ..)
theorem toNat_back {l : List Int} (h : NN l) : (l.map Int.toNat).map (fun (x : Nat) => (x : Int)) = l := by
  induction l with
  | nil => rfl
  | cons x r ih =>
    have e := ih h.tail
    rw [List.map_cons, List.map_cons, e, Int.toNat_of_nonneg h.head]
theorem ix_toNat {t : List Int} (h : NN t) (p : Int) : ix t p = (((t.map Int.toNat).getD p.toNat 0 : Nat) : Int) := by
  unfold ix
  rw [List.getD_eq_getElem?_getD, List.getD_eq_getElem?_getD, List.getElem?_map]
  cases e : t[p.toNat]? with
  | none => rfl
  | some z =>
    have := h z (List.mem_of_getElem? e)
    simp [Int.toNat_of_nonneg this]
theorem done_eq {at_ : List Int} (h : NN at_) (n : Nat) : Rc04.done n (at_.map Int.toNat) = hmd at_ (n : Int) := by
  unfold Rc04.done hmd
  induction at_ with
  | nil => rfl
  | cons p r ih =>
    have hp := h.head
    rw [List.map_cons, List.takeWhile_cons, List.takeWhile_cons]
    have e : (decide (p.toNat < n)) = decide (p < (n : Int)) := by
      by_cases c : p < (n : Int)
      · rw [decide_eq_true c, decide_eq_true (by omega)]
      · rw [decide_eq_false c, decide_eq_false (by omega)]
    rw [e]
    split
    · rw [List.length_cons, List.length_cons, ih h.tail]
    · rfl
theorem hmd_le (ps : List Int) (m : Int) : hmd ps m ≤ ps.length := by
  unfold hmd
  exact (List.takeWhile_sublist _).length_le
/-- the places that are done are below -/
theorem hmd_lt {ps : List Int} {m : Int} : ∀ {i : Nat} {p : Int}, i < hmd ps m → ps[i]? = some p → p < m := by
  unfold hmd
  induction ps with
  | nil =>
    intro i p h _
    simp at h
  | cons q r ih =>
    intro i p h e
    rw [List.takeWhile_cons] at h
    by_cases c : q < m
    · rw [decide_eq_true c] at h
      cases i with
      | zero =>
        simp at e
        omega
      | succ i =>
        simp at e h
        exact ih h e
    · rw [decide_eq_false c] at h
      simp at h
/-- how the loop finds it -/
theorem hmd_at {ps : List Int} {m : Int} : ∀ {i : Nat} {p : Int}, (∀ (j : Nat) (q : Int), j < i → ps[j]? = some q → q < m) → ps[i]? = some p → ¬ p < m → hmd ps m = i := by
  unfold hmd
  induction ps with
  | nil =>
    intro i p _ h _
    simp at h
  | cons q r ih =>
    intro i p ha e hn
    rw [List.takeWhile_cons]
    cases i with
    | zero =>
      simp at e
      subst e
      rw [decide_eq_false hn]
      rfl
    | succ i =>
      have c : q < m := ha 0 q (by omega) rfl
      rw [decide_eq_true c]
      have := ih (i := i) (p := p) (fun j q' hj he => ha (j + 1) q' (by omega) (by simpa using he)) (by simpa using e) hn
      simp only [if_true, List.length_cons]
      omega
theorem hmd_all {ps : List Int} {m : Int} (h : ∀ (j : Nat) (q : Int), ps[j]? = some q → q < m) : hmd ps m = ps.length := by
  unfold hmd
  induction ps with
  | nil => rfl
  | cons q r ih =>
    have c : q < m := h 0 q rfl
    rw [List.takeWhile_cons, decide_eq_true c]
    simp only [if_true, List.length_cons]
    rw [ih fun j q' he => h (j + 1) q' (by simpa using he)]
theorem take_succ_at {α : Type} : ∀ {l : List α} {i : Nat} {x : α}, l[i]? = some x → l.take (i + 1) = l.take i ++ [x]
  | [], i, x, h => by simp at h
  | a :: l, 0, x, h => by
    have e : a = x := Option.some.inj h
    subst e
    rfl
  | a :: l, i + 1, x, h => by
    have ih := take_succ_at (l := l) (i := i) (x := x) h
    show a :: l.take (i + 1) = a :: l.take i ++ [x]
    rw [ih]
    rfl
/-! reading a call's line -/
theorem list_app (l r : List Int) : Rc04Neutral.list ((l.length : Int) :: (l ++ r)) = some (l.map Int.toNat, r) := by
  show (if 0 ≤ (l.length : Int) ∧ ((l.length : Int)).toNat ≤ (l ++ r).length then some (((l ++ r).take ((l.length : Int)).toNat).map Int.toNat, (l ++ r).drop ((l.length : Int)).toNat) else none) = _
  rw [if_pos ⟨by omega, by simp⟩]
  simp
theorem list_end (l : List Int) : Rc04Neutral.list ((l.length : Int) :: l) = some (l.map Int.toNat, []) := by
  have := list_app l []
  rwa [List.append_nil] at this
def takenM (t at_ : List Int) : List Int := (hmd at_ t.length : Int) :: (at_.take (hmd at_ t.length)).map (ix t)
theorem take_out {t at_ : List Int} (ht : NN t) (ha : NN at_) :
    ((Rc04.done (t.map Int.toNat).length (at_.map Int.toNat) : Nat) : Int) :: (Rc04.take (t.map Int.toNat) (at_.map Int.toNat)).map (fun (x : Nat) => (x : Int)) = takenM t at_ := by
  unfold takenM Rc04.take
  rw [List.length_map, done_eq ha]
  refine congrArg _ ?_
  rw [← List.map_take, List.map_map, List.map_map]
  refine List.map_congr_left fun p _ => ?_
  exact (ix_toNat ht p).symm
theorem take32_is {t at_ : List Int} (ht : NN t) (ha : NN at_) : PyRc04.take32 t at_ = takenM t at_ := by
  have e : ∃ b, Rc04Neutral.callOf (0 :: ((t.length : Int) :: (t ++ ((t.length : Int) :: ((at_.length : Int) :: (at_ ++ [(at_.length : Int)])))))) = some (.take32 (t.map Int.toNat) (at_.map Int.toNat), b) := by
    unfold Rc04Neutral.callOf
    simp [list_app]
  obtain ⟨b, e⟩ := e
  unfold PyRc04.take32 Rc04Neutral.f
  simp only [List.cons_append, List.nil_append, List.append_assoc]
  rw [e]
  exact take_out ht ha
theorem take64_is {t at_ : List Int} (ht : NN t) (ha : NN at_) : PyRc04.take64 t at_ = takenM t at_ := by
  have e : ∃ b, Rc04Neutral.callOf (1 :: ((t.length : Int) :: (t ++ ((t.length : Int) :: ((at_.length : Int) :: (at_ ++ [(at_.length : Int)])))))) = some (.take64 (t.map Int.toNat) (at_.map Int.toNat), b) := by
    unfold Rc04Neutral.callOf
    simp [list_app]
  obtain ⟨b, e⟩ := e
  unfold PyRc04.take64 Rc04Neutral.f
  simp only [List.cons_append, List.nil_append, List.append_assoc]
  rw [e]
  exact take_out ht ha
end Pl
namespace Pl
def fourN (b : List Nat) (k : Nat) : Nat := b.getD k 0 + 256 * (b.getD (k + 1) 0 + 256 * (b.getD (k + 2) 0 + 256 * b.getD (k + 3) 0))
theorem getD_drop (b : List Nat) (s k : Nat) : (b.drop s).getD k 0 = b.getD (s + k) 0 := by
  rw [List.getD_eq_getElem?_getD, List.getD_eq_getElem?_getD, List.getElem?_drop]
theorem fields_ok : ∀ (n f s : Nat) (b : List Nat), 0 < s → b.length = n * s → n < f → (Rc04Neutral.fields f s b).length = n ∧ ∀ i, i < n → (Rc04Neutral.fields f s b).getD i 0 = fourN b (s * i)
  | 0, f + 1, s, b, hs, hl, _ => by
    have e : Rc04Neutral.fields (f + 1) s b = [] := by
      rw [Rc04Neutral.fields]
      exact if_pos (Or.inl (by omega))
    rw [e]
    exact ⟨rfl, fun i h => absurd h (by omega)⟩
  | n + 1, f + 1, s, b, hs, hl, hf => by
    have hl' : b.length = n * s + s := by rw [hl, Nat.succ_mul]
    have e : Rc04Neutral.fields (f + 1) s b = fourN b 0 :: Rc04Neutral.fields f s (b.drop s) := by
      rw [Rc04Neutral.fields]
      exact if_neg (by
        intro h
        rcases h with h | h <;> omega)
    obtain ⟨i1, i2⟩ := fields_ok n f s (b.drop s) hs (by rw [List.length_drop, hl']; omega) (by omega)
    rw [e]
    refine ⟨by rw [List.length_cons, i1], fun i hi => ?_⟩
    cases i with
    | zero => rfl
    | succ i =>
      have h2 := i2 i (by omega)
      rw [List.getD_cons_succ, h2]
      unfold fourN
      have q : s + s * i = s * (i + 1) := by rw [Nat.mul_add, Nat.mul_one, Nat.add_comm]
      rw [getD_drop, getD_drop, getD_drop, getD_drop, ← Nat.add_assoc, ← Nat.add_assoc, ← Nat.add_assoc, q]
def numAt (t : List Int) (b : Int) : Int := ix t b + 256 * ix t (b + 1) + 65536 * ix t (b + 2) + 16777216 * ix t (b + 3)
def fieldM (n stride : Int) (t at_ : List Int) : List Int := (hmd at_ n : Int) :: (at_.take (hmd at_ n)).map fun p => numAt t (stride * p)
theorem numAt_is {t : List Int} (ht : NN t) {b : Int} (hb : 0 ≤ b) : numAt t b = ((fourN (t.map Int.toNat) b.toNat : Nat) : Int) := by
  unfold numAt fourN
  rw [ix_toNat ht, ix_toNat ht, ix_toNat ht, ix_toNat ht]
  have e1 : (b + 1).toNat = b.toNat + 1 := by omega
  have e2 : (b + 2).toNat = b.toNat + 2 := by omega
  have e3 : (b + 3).toNat = b.toNat + 3 := by omega
  rw [e1, e2, e3]
  generalize (t.map Int.toNat).getD b.toNat 0 = x
  generalize (t.map Int.toNat).getD (b.toNat + 1) 0 = y
  generalize (t.map Int.toNat).getD (b.toNat + 2) 0 = z
  generalize (t.map Int.toNat).getD (b.toNat + 3) 0 = w
  omega
theorem field32_is {n stride : Int} {t at_ : List Int} (ht : NN t) (ha : NN at_) (hs : 4 ≤ stride) (hn : 0 ≤ n) (hl : (t.length : Int) = n * stride) : PyRc04.field32 n stride t at_ = fieldM n stride t at_ := by
  have e : ∃ b, Rc04Neutral.callOf (2 :: ((t.length : Int) :: (t ++ (n :: (stride :: ((at_.length : Int) :: (at_ ++ [(at_.length : Int)]))))))) = some (.field32 (Rc04Neutral.fields ((t.map Int.toNat).length + 1) stride.toNat (t.map Int.toNat)) (at_.map Int.toNat), b) := by
    unfold Rc04Neutral.callOf
    simp [list_app]
  obtain ⟨b, e⟩ := e
  unfold PyRc04.field32 Rc04Neutral.f
  simp only [List.cons_append, List.nil_append, List.append_assoc]
  rw [e]
  have hl2 : (t.map Int.toNat).length = n.toNat * stride.toNat := by
    rw [List.length_map]
    have h1 : (n.toNat : Int) = n := Int.toNat_of_nonneg hn
    have h2 : (stride.toNat : Int) = stride := Int.toNat_of_nonneg (by omega)
    have h3 : ((n.toNat * stride.toNat : Nat) : Int) = n * stride := by rw [Int.natCast_mul, h1, h2]
    omega
  have hle : n.toNat ≤ (t.map Int.toNat).length := by
    rw [hl2]
    exact Nat.le_mul_of_pos_right _ (by omega)
  obtain ⟨f1, f2⟩ := fields_ok n.toNat ((t.map Int.toNat).length + 1) stride.toNat (t.map Int.toNat) (by omega) hl2 (by omega)
  show ((Rc04.done (Rc04Neutral.fields ((t.map Int.toNat).length + 1) stride.toNat (t.map Int.toNat)).length (at_.map Int.toNat) : Nat) : Int) :: (Rc04.take (Rc04Neutral.fields ((t.map Int.toNat).length + 1) stride.toNat (t.map Int.toNat)) (at_.map Int.toNat)).map (fun (x : Nat) => (x : Int)) = fieldM n stride t at_
  unfold fieldM Rc04.take
  rw [f1, done_eq ha, Int.toNat_of_nonneg hn]
  refine congrArg _ ?_
  rw [← List.map_take, List.map_map, List.map_map]
  refine List.map_congr_left fun p hp => ?_
  have hp0 : 0 ≤ p := ha p (List.mem_of_mem_take hp)
  obtain ⟨i, hi⟩ := List.getElem?_of_mem hp
  have hi' : i < hmd at_ n ∧ at_[i]? = some p := by
    rw [List.getElem?_take] at hi
    split at hi
    · exact ⟨by assumption, hi⟩
    · cases hi
  have hpn : p < n := hmd_lt hi'.1 hi'.2
  have hsp : (0 : Int) ≤ stride * p := Int.mul_nonneg (by omega) hp0
  show (((Rc04Neutral.fields ((t.map Int.toNat).length + 1) stride.toNat (t.map Int.toNat)).getD p.toNat 0 : Nat) : Int) = numAt t (stride * p)
  rw [f2 p.toNat (by omega), numAt_is ht hsp]
  have q : (stride * p).toNat = stride.toNat * p.toNat := by
    have h1 : (p.toNat : Int) = p := Int.toNat_of_nonneg hp0
    have h2 : (stride.toNat : Int) = stride := Int.toNat_of_nonneg (by omega)
    have h3 : ((stride.toNat * p.toNat : Nat) : Int) = stride * p := by rw [Int.natCast_mul, h1, h2]
    omega
  rw [q]
theorem field32_asks {n stride : Int} {t at_ : List Int} (h : PyRc04.field32_asked n stride t at_ = true) : 4 ≤ stride ∧ 0 ≤ n ∧ (t.length : Int) = n * stride := by
  unfold PyRc04.field32_asked Rc04Neutral.asked at h
  simp only [List.cons_append, List.nil_append, List.append_assoc] at h
  rw [Bool.and_eq_true] at h
  have h2 := h.2
  rw [List.all_cons, List.all_nil, Bool.and_true, Bool.and_eq_true] at h2
  have h3 := h2.2
  unfold Rc04Neutral.callOf at h3
  simp [list_app] at h3
  exact ⟨h3.1.1, h3.1.2.2, h3.2.1⟩
end Pl
namespace Wk
open PySem PySem.Spec PyProof.Rows L2
open PySem.W (Codec)
def topS (i : Nat) : Stmt := PySem.Challenge.pw_placelists_s03_field32.main.body.getD i (.Pass ⟨0, 0, 0, 0⟩)
abbrev sHmd : Stmt := topS 1
abbrev sDone : Stmt := topS 2
abbrev sNum : Stmt := topS 4
abbrev sFields : Stmt := topS 5
abbrev sTop : Stmt := topS 7
/-! ### the heap: helpers -/
theorem same_upd {H : Hp} {p : Addr} {o : HO} (h : H p = none) : Same H (upd H p o) := fun b x e => by
  rw [upd_ne (ne_of_none e h)]
  exact e
/-- an object new since H stands changed: H is as it was -/
theorem same_put {H H1 : Hp} {p : Addr} {o : HO} (s : Same H H1) (h : H p = none) : Same H (upd H1 p o) := fun b x e => by
  rw [upd_ne (ne_of_none e h)]
  exact s _ _ e
theorem line_le {n : Nat} (h : n ≤ 1048576) : n ≤ sizeLine := Nat.le_trans h (by decide)
theorem line_lt {n : Nat} (h : n < 1048576) : n < sizeLine := Nat.lt_of_lt_of_le h (by decide)
theorem if_true_of {c : Bool} {A B : Prop} (hc : c = true) (h : A) : if c = true then A else B := by
  rw [if_pos hc]
  exact h
theorem if_false_of {c : Bool} {A B : Prop} (hc : c = false) (h : B) : if c = true then A else B := by
  rw [hc, if_neg Bool.false_ne_true]
  exact h
theorem ints_get {ns : List Int} {i : Nat} {y : V} (h : (ns.map V.int)[i]? = some y) : ∃ z, ns[i]? = some z ∧ y = V.int z := by
  rw [List.getElem?_map] at h
  cases e : ns[i]? with
  | none =>
    rw [e] at h
    cases h
  | some z =>
    rw [e] at h
    exact ⟨z, rfl, (Option.some.inj h).symm⟩
theorem ints_at {ns : List Int} {i : Nat} {z : Int} (h : ns[i]? = some z) : (ns.map V.int)[i]? = some (V.int z) := by
  rw [List.getElem?_map, h]
  rfl
theorem ints_set (ns : List Int) (i : Nat) (z : Int) : (ns.map V.int).set i (V.int z) = (ns.set i z).map V.int := by
  rw [List.map_set]
/-- the item at a place that is not negative -/
theorem at_ix {ns : List Int} {p : Int} (h0 : 0 ≤ p) (h1 : p < (ns.length : Int)) : atI (ns.map V.int) p = some (V.int (Pl.ix ns p)) := by
  refine at_of (j := p.toNat) (Int.toNat_of_nonneg h0).symm ?_
  refine ints_at ?_
  have hl : p.toNat < ns.length := by omega
  unfold Pl.ix
  rw [List.getD_eq_getElem?_getD, List.getElem?_eq_getElem hl]
  rfl
/-- a comprehension without a test goes on -/
theorem yes_if {σ : L2.St} {H : Hp} {A B : Hp → Prop} (h : A H) : tYes σ H fun b H3 => if b = true then A H3 else B H3 := by
  show if true = true then A H else B H
  rw [if_pos rfl]
  exact h
/-! ### how_many_done, done -/
theorem scHmd : FnScope ["places", "many", "k"] ["places", "many"] (defScope sHmd) := ⟨rfl, rfl, rfl, by decide +kernel, rfl, by decide +kernel, by decide +kernel⟩
def spHmd (K : PySem.W.Frag) : Sp := fun vs H Q _ => ∃ (a : Addr) (ps : List Int) (m : Int), vs = [.ref a, .int m] ∧ SqL K H a (ps.map V.int) ∧ ps.length ≤ 25600 ∧ Q (.int (Pl.hmd ps m)) H
theorem ok_hmd {P : Program} {w : World} {K : PySem.W.Frag} {mg : Str → Option Value} {base : Heap} {f : Addr} {fd : FuncData} (F : Fun K "how_many_done" "how_many_done" sHmd f fd) (ml : mg "len" = none) (mr : mg "range" = none) : FnOk P w K mg base CX0 1 f fd ["places", "many"] (spHmd K) := by
  refine F.ok scHmd (fun vs H Q E h => ?_) (fun cdv A outer s H vs Q E hr h => ?_)
  · obtain ⟨a, ps, m, rfl, _⟩ := h
    rfl
  · obtain ⟨a, ps, m, rfl, hS, hl, q⟩ := h
    refine ⟨_, pss_cons (ps_for PassesOwn.never rfl (pi_range1 (by rfl) mr (pa_cons (pe_callB call_len_seq (by rfl) ml PySem.boot_len (pa_cons (pv 0) pa_nil)) pa_nil)) (pg_name (i := 2) scHmd.nd rfl (.inl rfl))
        (pss_one (ps_if (pt_cmpR op_ge (pe_ix ix_list (pv 0) (pv 2) (fun _ _ => rfl)) (pv 1) (nomark _)) (pss_one (ps_ret (pv 2))) pss_nil)))
      (pss_one (ps_ret (pe_callB call_len_seq (by rfl) ml PySem.boot_len (pa_cons (pv 0) pa_nil)))), ?_⟩
    have hl2 : ((ps.map V.int).length : Int) = (ps.length : Int) := by rw [List.length_map]
    refine ⟨_, rfl, a, _, rfl, .inl hS, _, rfl, (by rw [hl2]; omega), (by rw [hl2]; omega), ?_⟩
    rw [List.length_map, Int.toNat_natCast]
    refine for_range (lo := 0) (n := ps.length) (fun i σ H' => ∃ v : Option V, σ = [some (.ref a), some (.int m), v] ∧ H' = H ∧ ∀ (j : Nat) (p : Int), j < i → ps[j]? = some p → p < m)
      ⟨none, rfl, rfl, fun j p h _ => absurd h (by omega)⟩ ?_ ?_
    · rintro i σ H' hi ⟨v, rfl, rfl, hb⟩
      obtain ⟨p, hp⟩ : ∃ p, ps[i]? = some p := ⟨_, List.getElem?_eq_getElem hi⟩
      refine ⟨_, rfl, _, rfl, a, _, _, V.int p, rfl, rfl, hS, at_of (j := i) (by omega) (ints_at hp), _, rfl, p, m, rfl, rfl, _, rfl, ?_⟩
      by_cases c : m ≤ p
      · refine if_true_of (decide_eq_true c) ?_
        refine ⟨_, rfl, ?_⟩
        have e := Pl.hmd_at (m := m) hb hp (by omega)
        rw [e] at q
        rw [Int.zero_add]
        exact q
      · refine if_false_of (decide_eq_false c) ?_
        refine ⟨_, rfl, rfl, fun j p' hj hp' => ?_⟩
        by_cases e : j = i
        · subst e
          rw [hp] at hp'
          cases hp'
          omega
        · exact hb j p' (by omega) hp'
    · rintro σ H' ⟨v, rfl, rfl, hb⟩
      refine ⟨_, rfl, a, _, rfl, .inl hS, ?_⟩
      rw [List.length_map]
      have e := Pl.hmd_all (ps := ps) (m := m) fun j p' hp' => hb j p' (List.getElem?_eq_some_iff.mp hp').1 hp'
      rw [e] at q
      exact q
theorem scDone : FnScope ["places", "many"] ["places", "many"] (defScope sDone) := ⟨rfl, rfl, rfl, by decide +kernel, rfl, by decide +kernel, by decide +kernel⟩
def spDone (K : PySem.W.Frag) : Sp := fun vs H Q _ => ∃ (a : Addr) (ps : List Int) (m : Int), vs = [.ref a, .int m] ∧ SqL K H a (ps.map V.int) ∧ ps.length ≤ 25600 ∧
  ∀ p, H p = none → Q (.ref p) (upd H p (.lst ((ps.take (Pl.hmd ps m)).map V.int)))
theorem cut_to {xs : List V} {k : Nat} : cutV xs none (some (k : Int)) = xs.take k := by
  unfold cutV
  rw [HT.sIx_nat, HT.sIx_none, Nat.sub_zero, List.drop_zero]
  by_cases h : k ≤ xs.length
  · rw [Nat.min_eq_left h]
  · rw [Nat.min_eq_right (by omega), List.take_length, List.take_of_length_le (by omega)]
theorem ok_done {P : Program} {w : World} {K : PySem.W.Frag} {mg : Str → Option Value} {base : Heap} {f fH : Addr} {fd fdH : FuncData} (F : Fun K "done" "done" sDone f fd) (FH : Fun K "how_many_done" "how_many_done" sHmd fH fdH) (bH : Binds K fdH ["places", "many"] []) (gH : mg "how_many_done" = some (.ref fH)) (ml : mg "len" = none) (mr : mg "range" = none) : FnOk P w K mg base CX0 2 f fd ["places", "many"] (spDone K) := by
  have GH : FnOk P w K mg base CX0 1 fH fdH ["places", "many"] (spHmd K) := ok_hmd FH ml mr
  refine F.ok scDone (fun vs H Q E h => ?_) (fun cdv A outer s H vs Q E hr h => ?_)
  · obtain ⟨a, ps, m, rfl, _⟩ := h
    rfl
  · obtain ⟨a, ps, m, rfl, hS, hl, q⟩ := h
    refine ⟨_, pss_one (ps_ret (pe_slice sl_list (pv 0) po_none (po_some (pe_call GH hr (by rfl) gH FH.kp bH .nil pass0 (pa_cons (pv 0) (pa_cons (pv 1) pa_nil)))))), ?_⟩
    refine ⟨_, rfl, _, rfl, _, rfl, a, ps, m, rfl, hS, hl, _, rfl, a, _, rfl, hS, fun p np => ?_⟩
    rw [cut_to, ← List.map_take]
    exact q p np
/-! ### number_at, fields_taken -/
theorem scNum : FnScope ["some", "begin"] ["some", "begin"] (defScope sNum) := ⟨rfl, rfl, rfl, by decide +kernel, rfl, by decide +kernel, by decide +kernel⟩
def spNum (K : PySem.W.Frag) : Sp := fun vs H Q _ => ∃ (a : Addr) (ts : List Int) (b : Int), vs = [.ref a, .int b] ∧ SqL K H a (ts.map V.int) ∧ 0 ≤ b ∧ b + 3 < (ts.length : Int) ∧ Q (.int (Pl.numAt ts b)) H
theorem ok_num {P : Program} {w : World} {K : PySem.W.Frag} {mg : Str → Option Value} {base : Heap} {f : Addr} {fd : FuncData} (F : Fun K "number_at" "number_at" sNum f fd) : FnOk P w K mg base CX0 1 f fd ["some", "begin"] (spNum K) := by
  refine F.ok scNum (fun vs H Q E h => ?_) (fun cdv A outer s H vs Q E hr h => ?_)
  · obtain ⟨a, ts, b, rfl, _⟩ := h
    rfl
  · obtain ⟨a, ts, b, rfl, hS, h0, h3, q⟩ := h
    refine ⟨_, pss_one (ps_ret (pe_op op_add (pe_op op_add (pe_op op_add (pe_ix ix_list (pv 0) (pv 1) (fun _ _ => rfl))
        (pe_op op_mul pe_int (pe_ix ix_list (pv 0) (pe_op op_add (pv 1) pe_int) (fun _ _ => rfl))))
        (pe_op op_mul pe_int (pe_ix ix_list (pv 0) (pe_op op_add (pv 1) pe_int) (fun _ _ => rfl))))
        (pe_op op_mul pe_int (pe_ix ix_list (pv 0) (pe_op op_add (pv 1) pe_int) (fun _ _ => rfl))))), ?_⟩
    refine ⟨_, rfl, _, rfl, a, _, _, _, rfl, rfl, hS, at_ix h0 (by omega), ?_⟩
    refine ⟨_, rfl, _, rfl, _, _, rfl, rfl, a, _, _, _, rfl, rfl, hS, at_ix (p := b + 1) (by omega) (by omega), _, _, rfl, rfl, .inl ⟨by decide, by decide⟩, _, _, rfl, rfl, ?_⟩
    refine ⟨_, rfl, _, rfl, _, _, rfl, rfl, a, _, _, _, rfl, rfl, hS, at_ix (p := b + 2) (by omega) (by omega), _, _, rfl, rfl, .inl ⟨by decide, by decide⟩, _, _, rfl, rfl, ?_⟩
    refine ⟨_, rfl, _, rfl, _, _, rfl, rfl, a, _, _, _, rfl, rfl, hS, at_ix (p := b + 3) (by omega) (by omega), _, _, rfl, rfl, .inl ⟨by decide, by decide⟩, _, _, rfl, rfl, ?_⟩
    exact q
theorem scFields : FnScope ["many", "stride", "some", "places", "here", "place"] ["many", "stride", "some", "places"] (defScope sFields) := ⟨rfl, rfl, rfl, by decide +kernel, rfl, by decide +kernel, by decide +kernel⟩
def spFields (K : PySem.W.Frag) : Sp := fun vs H Q _ => ∃ (a b : Addr) (n st : Int) (ts ps : List Int), vs = [.int n, .int st, .ref a, .ref b] ∧ SqL K H a (ts.map V.int) ∧ SqL K H b (ps.map V.int) ∧ ps.length ≤ 25600 ∧ Pl.NN ps ∧ 4 ≤ st ∧ st ≤ 64 ∧ (ts.length : Int) = n * st ∧
  ∀ H' p, Same H H' → H p = none → H' p = some (.lst ((Pl.fieldM n st ts ps).map V.int)) → Q (.ref p) H'
theorem ok_fields {P : Program} {w : World} {K : PySem.W.Frag} {mg : Str → Option Value} {base : Heap} {f fD fN : Addr} {fd fdD fdN : FuncData} (F : Fun K "fields_taken" "fields_taken" sFields f fd) (FD : Fun K "done" "done" sDone fD fdD) (bD : Binds K fdD ["places", "many"] []) (gD : mg "done" = some (.ref fD)) (FN : Fun K "number_at" "number_at" sNum fN fdN) (bN : Binds K fdN ["some", "begin"] []) (gN : mg "number_at" = some (.ref fN)) (ml : mg "len" = none)
    (GD : FnOk P w K mg base CX0 2 fD fdD ["places", "many"] (spDone K)) : FnOk P w K mg base CX0 3 f fd ["many", "stride", "some", "places"] (spFields K) := by
  have GN : FnOk P w K mg base CX0 1 fN fdN ["some", "begin"] (spNum K) := ok_num FN
  refine F.ok scFields (fun vs H Q E h => ?_) (fun cdv A outer s H vs Q E hr h => ?_)
  · obtain ⟨a, b, n, st, ts, ps, rfl, _⟩ := h
    rfl
  · obtain ⟨a, b, n, st, ts, ps, rfl, hT, hS, hlp, nn, hs4, hs64, hlen, q⟩ := h
    have hr1 : Room 1 _ := hr.mono (by decide)
    refine ⟨_, pss_cons (ps_set (i := 4) scFields.nd rfl (.inl rfl) (pe_call GD hr (by rfl) gD FD.kp bD .nil pass0 (pa_cons (pv 3) (pa_cons (pv 0) pa_nil))))
      (pss_one (ps_ret (pe_op op_cat (pe_lst (pa_cons (pe_callB call_len_seq (by rfl) ml PySem.boot_len (pa_cons (pv 4) pa_nil)) pa_nil))
        (pe_lc (own := [("place", 5)]) (g := gName 5) (tt := tYes) rfl scFields.nd (pi_list (pv 4)) (blkOk_by (own := [("place", 5)]) (N := ["many", "stride", "some", "places", "here", "place"]) (sc := defScope sFields) (by decide +kernel)) (fun _ _ _ _ _ => pg_name (i := 5) scFields.nd rfl (Or.inl rfl)) (fun _ _ _ _ _ => pts_nil)
          (fun _ _ _ _ _ => pe_call GN hr1 (by rfl) gN FN.kp bN .nil pass0 (pa_cons (pv 2) (pa_cons (pe_op op_mul (pv 1) (pv 5)) pa_nil))))))), ?_⟩
    refine ⟨_, rfl, _, rfl, b, ps, _, rfl, hS, hlp, fun h nh => ?_⟩
    have hle := Pl.hmd_le ps n
    have s1 : Same H (upd H h (.lst ((ps.take (Pl.hmd ps n)).map V.int))) := same_upd nh
    -- [len(here)]
    refine ⟨_, rfl, h, _, rfl, .inl (SqL.of upd_same), (by show 1 ≤ sizeLine; decide), fun l nl => ?_⟩
    have s2 := same_upd (o := .lst [V.int (((ps.take (Pl.hmd ps n)).map V.int).length : Int)]) nl
    -- the comprehension
    refine ⟨_, rfl, h, rfl, ⟨_, SqL.of (s2 _ _ upd_same)⟩, fun D nD => ?_⟩
    have s3 := same_upd (o := .lst []) nD
    have hlk : (ps.take (Pl.hmd ps n)).length ≤ 25600 := by
      rw [List.length_take]
      omega
    refine lc_list (K := K) (a := h) (xs := (ps.take (Pl.hmd ps n)).map V.int) (fun i H' => Same (upd (upd H h (.lst ((ps.take (Pl.hmd ps n)).map V.int))) l (.lst [V.int (((ps.take (Pl.hmd ps n)).map V.int).length : Int)])) H' ∧ H' D = some (.lst ((((ps.take (Pl.hmd ps n)).take i).map fun p => Pl.numAt ts (st * p)).map V.int)))
      ⟨s3, upd_same⟩ (fun i H' _ z => SqL.of (z.1 _ _ (s2 _ _ upd_same))) ?_ ?_
    · rintro i y H' hy ⟨z1, z2⟩
      obtain ⟨p, hp, rfl⟩ := ints_get hy
      have hk : i < Pl.hmd ps n ∧ ps[i]? = some p := by
        rw [List.getElem?_take] at hp
        split at hp
        · exact ⟨by assumption, hp⟩
        · cases hp
      have hp0 : 0 ≤ p := nn p (List.mem_of_getElem? hk.2)
      have hpn : p < n := Pl.hmd_lt hk.1 hk.2
      have hb0 : (0 : Int) ≤ st * p := Int.mul_nonneg (by omega) hp0
      have hb1 : st * p + 3 < (ts.length : Int) := by
        have e1 : st * (p + 1) ≤ st * n := Int.mul_le_mul_of_nonneg_left (by omega) (by omega)
        rw [Int.mul_add, Int.mul_one, Int.mul_comm st n] at e1
        omega
      refine ⟨rfl, yes_if ?_⟩
      refine ⟨_, rfl, _, rfl, _, rfl, _, _, rfl, rfl, .inl ⟨by omega, by omega⟩, a, ts, st * p, rfl, z1.seq (s2.seq (s1.seq hT)), hb0, hb1, _, z2, ?_, ?_, ?_⟩
      · rw [List.length_map, List.length_map, List.length_take]
        exact line_lt (by omega)
      · exact same_put z1 nD
      · rw [upd_same, Pl.take_succ_at hp, List.map_append, List.map_append]
        rfl
    · rintro H' ⟨z1, z2⟩
      rw [List.length_map, List.take_length] at z2
      refine ⟨l, D, _, _, rfl, rfl, z1 _ _ upd_same, z2, ?_, fun p np => ?_⟩
      · simp only [List.length_map, List.length_cons, List.length_nil]
        exact line_le (by omega)
      · have s5 : Same H H' := (s1.trans s2).trans z1
        refine q _ p (same_put s5 (s5.free np)) (s5.free np) ?_
        rw [upd_same]
        unfold Pl.fieldM
        rw [List.length_map, List.length_take, Nat.min_eq_left hle]
        rfl
/-! ### field32 -/
theorem scTop : FnScope ["n", "stride", "t", "at"] ["n", "stride", "t", "at"] (defScope sTop) := ⟨rfl, rfl, rfl, by decide +kernel, rfl, by decide +kernel, by decide +kernel⟩
def spTop (K : PySem.W.Frag) : Sp := fun vs H Q _ => ∃ (a b : Addr) (n st : Int) (ts ps : List Int), vs = [.int n, .int st, .ref a, .ref b] ∧ SqL K H a (ts.map V.int) ∧ SqL K H b (ps.map V.int) ∧ ps.length ≤ 400 ∧ Pl.NN ts ∧ Pl.NN ps ∧ 4 ≤ st ∧ st ≤ 64 ∧ 0 ≤ n ∧ (ts.length : Int) = n * st ∧
  ∀ (H' : Hp) (p : Addr), H' p = some (.lst ((PyRc04.field32 n st ts ps).map V.int)) → Q (.ref p) H'
theorem ok_top {P : Program} {w : World} {K : PySem.W.Frag} {mg : Str → Option Value} {base : Heap} {f f1 f2 f3 f4 : Addr} {fd fd1 fd2 fd3 fd4 : FuncData} (F : Fun K "field32" "field32" sTop f fd)
    (F1 : Fun K "how_many_done" "how_many_done" sHmd f1 fd1) (b1 : Binds K fd1 ["places", "many"] []) (g1 : mg "how_many_done" = some (.ref f1))
    (F2 : Fun K "done" "done" sDone f2 fd2) (b2 : Binds K fd2 ["places", "many"] []) (g2 : mg "done" = some (.ref f2))
    (F3 : Fun K "number_at" "number_at" sNum f3 fd3) (b3 : Binds K fd3 ["some", "begin"] []) (g3 : mg "number_at" = some (.ref f3))
    (F4 : Fun K "fields_taken" "fields_taken" sFields f4 fd4) (b4 : Binds K fd4 ["many", "stride", "some", "places"] []) (g4 : mg "fields_taken" = some (.ref f4)) (ml : mg "len" = none) (mr : mg "range" = none) : FnOk P w K mg base CX0 4 f fd ["n", "stride", "t", "at"] (spTop K) := by
  have G4 : FnOk P w K mg base CX0 3 f4 fd4 ["many", "stride", "some", "places"] (spFields K) := ok_fields F4 F2 b2 g2 F3 b3 g3 ml (ok_done F2 F1 b1 g1 ml mr)
  refine F.ok scTop (fun vs H Q E h => ?_) (fun cdv A outer s H vs Q E hr h => ?_)
  · obtain ⟨a, b, n, st, ts, ps, rfl, _⟩ := h
    rfl
  · obtain ⟨a, b, n, st, ts, ps, rfl, hT, hS, hlp, nt, np, hs4, hs64, hn, hlen, q⟩ := h
    refine ⟨_, pss_one (ps_ret (pe_call G4 hr (by rfl) g4 F4.kp b4 .nil pass0 (pa_cons (pv 0) (pa_cons (pv 1) (pa_cons (pv 2) (pa_cons (pv 3) pa_nil)))))), ?_⟩
    refine ⟨_, rfl, _, rfl, _, rfl, _, rfl, a, b, n, st, ts, ps, rfl, hT, hS, by omega, np, hs4, hs64, hlen, fun H' p _ _ hp => ?_⟩
    rw [← Pl.field32_is nt np hs4 hn hlen] at hp
    exact q H' p hp
theorem top_of {K : PySem.W.Frag} {H : Hp} {Q : V → Hp → Prop} {E : XK} {a b : Addr} {n st : Int} {ts ps : List Int} (_ : 0 ≤ n ∧ n ≤ 400) (p1 : 4 ≤ st ∧ st ≤ 64) (pt : 0 ≤ ts.length ∧ ts.length ≤ 25600 ∧ Pl.NN ts) (pp : 0 ≤ ps.length ∧ ps.length ≤ 400 ∧ Pl.NN ps) (st_ : SqL K H a (ts.map V.int)) (ss : SqL K H b (ps.map V.int))
    (ask : PyRc04.field32_asked n st ts ps = true) (k : ∀ (H' : Hp) (p : Addr), H' p = some (.lst ((PyRc04.field32 n st ts ps).map V.int)) → Q (.ref p) H') : spTop K [.int n, .int st, .ref a, .ref b] H Q E :=
  ⟨a, b, n, st, ts, ps, rfl, st_, ss, pp.2.1, pt.2.2, pp.2.2, p1.1, p1.2, (Pl.field32_asks ask).2.1, (Pl.field32_asks ask).2.2, k⟩
/-! ### reading the request -/
theorem and_two {a b : Bool} (h : (a && b) = true) : a = true ∧ b = true := Bool.and_eq_true_iff.mp h
theorem list_in {least most : Nat} {hi : Int} {l : List Int} (h : (Codec.inLen least most l && l.all (Codec.inInt 0 hi)) = true) : least ≤ l.length ∧ l.length ≤ most ∧ Pl.NN l := by
  have h1 := Codec.inNat_iff.mp (and_two h).1
  refine ⟨h1.1, h1.2, fun x hx => ?_⟩
  exact (Codec.inInt_iff.mp (List.all_eq_true.mp (and_two h).2 x hx)).1
theorem dw_cons {K : PySem.W.Frag} {H : Hp} {xs : List V} {d : PySem.W.WData} {ds : List PySem.W.WData} (x : DwAll K H xs (d :: ds)) : ∃ v vs, xs = v :: vs ∧ Dw K H v d ∧ DwAll K H vs ds := by
  cases x with
  | cons a b => exact ⟨_, _, rfl, a, b⟩
theorem dw_list {K : PySem.W.Frag} {H : Hp} {v : V} {ns : List Int} (x : Dw K H v (.list (ns.map PySem.W.WData.int))) : ∃ a, v = .ref a ∧ SqL K H a (ns.map V.int) := by
  cases x with
  | lst hs ha =>
    have e := ints_dw ns _ ha
    subst e
    exact ⟨_, rfl, hs⟩
theorem dw_int {K : PySem.W.Frag} {H : Hp} {v : V} {i : Int} (x : Dw K H v (.int i)) : v = .int i := by
  cases x
  rfl
/-! ### the end: what the top has written -/
theorem all_mk {P : Program} {w : World} {K : PySem.W.Frag} {h : Heap} {mg : Str → Option Value} {fa f1 f2 f3 f4 f5 : Addr} (X : K.In h) (G : h.Ns mainGlobals mg) (hfa : mg "field32" = some (.ref fa))
    {od1 an1 od2 an2 od3 an3 od4 an4 od5 an5 : Option Addr} {sl1 sl2 sl3 sl4 sl5 : Array (Option Value)} {oc1 kV1 dc1 pm1 cd1 ct1 oc2 kV2 dc2 pm2 cd2 ct2 oc3 kV3 dc3 pm3 cd3 ct3 oc4 kV4 dc4 pm4 cd4 ct4 oc5 kV5 dc5 pm5 cd5 ct5 : Value}
    (a1 : PySem.W.nsIn K mainGlobals "how_many_done" = some (some (.ref f1))) (l1 : K.lookup f1 = some ⟨oc1, od1, .func (PySem.W.fnOf "how_many_done" "how_many_done" (defArgs sHmd) (defBody sHmd) (defScope sHmd) .none kV1 dc1 pm1 an1 cd1 ct1), sl1⟩) (c1 : PySem.W.codeIn K cd1 "how_many_done" = true) (k1 : PySem.W.keepIn K (.ref f1) = true)
    (a2 : PySem.W.nsIn K mainGlobals "done" = some (some (.ref f2))) (l2 : K.lookup f2 = some ⟨oc2, od2, .func (PySem.W.fnOf "done" "done" (defArgs sDone) (defBody sDone) (defScope sDone) .none kV2 dc2 pm2 an2 cd2 ct2), sl2⟩) (c2 : PySem.W.codeIn K cd2 "done" = true) (k2 : PySem.W.keepIn K (.ref f2) = true)
    (a3 : PySem.W.nsIn K mainGlobals "number_at" = some (some (.ref f3))) (l3 : K.lookup f3 = some ⟨oc3, od3, .func (PySem.W.fnOf "number_at" "number_at" (defArgs sNum) (defBody sNum) (defScope sNum) .none kV3 dc3 pm3 an3 cd3 ct3), sl3⟩) (c3 : PySem.W.codeIn K cd3 "number_at" = true) (k3 : PySem.W.keepIn K (.ref f3) = true)
    (a4 : PySem.W.nsIn K mainGlobals "fields_taken" = some (some (.ref f4))) (l4 : K.lookup f4 = some ⟨oc4, od4, .func (PySem.W.fnOf "fields_taken" "fields_taken" (defArgs sFields) (defBody sFields) (defScope sFields) .none kV4 dc4 pm4 an4 cd4 ct4), sl4⟩) (c4 : PySem.W.codeIn K cd4 "fields_taken" = true) (k4 : PySem.W.keepIn K (.ref f4) = true)
    (a5 : PySem.W.nsIn K mainGlobals "field32" = some (some (.ref f5))) (l5 : K.lookup f5 = some ⟨oc5, od5, .func (PySem.W.fnOf "field32" "field32" (defArgs sTop) (defBody sTop) (defScope sTop) .none kV5 dc5 pm5 an5 cd5 ct5), sl5⟩) (c5 : PySem.W.codeIn K cd5 "field32" = true) (k5 : PySem.W.keepIn K (.ref f5) = true)
    (z1 : PySem.W.nsIn K mainGlobals "len" = some none)
    (z2 : PySem.W.nsIn K mainGlobals "range" = some none)
    : ∃ fd : FuncData, (∀ (s : Shared) (us : List Value), us.length = (["n", "stride", "t", "at"] : List Str).length → BindsTo s fd ⟨us, []⟩ ((["n", "stride", "t", "at"] : List Str).zip us)) ∧ ∀ base : Heap, K.In base → base.Ns mainGlobals mg → FnOk P w K mg base CX0 4 fa fd ["n", "stride", "t", "at"] (spTop K) := by
  have e := hfa.symm.trans (PySem.W.mg_of X G a5)
  cases e
  have F1 := fun_mk (st := sHmd) l1 c1 k1
  have F2 := fun_mk (st := sDone) l2 c2 k2
  have F3 := fun_mk (st := sNum) l3 c3 k3
  have F4 := fun_mk (st := sFields) l4 c4 k4
  have F5 := fun_mk (st := sTop) l5 c5 k5
  have b1 := F1.binds (ps := ["places", "many"]) fun _ _ _ _ _ _ us hl => match us, hl with | [_, _], _ => rfl
  have b2 := F2.binds (ps := ["places", "many"]) fun _ _ _ _ _ _ us hl => match us, hl with | [_, _], _ => rfl
  have b3 := F3.binds (ps := ["some", "begin"]) fun _ _ _ _ _ _ us hl => match us, hl with | [_, _], _ => rfl
  have b4 := F4.binds (ps := ["many", "stride", "some", "places"]) fun _ _ _ _ _ _ us hl => match us, hl with | [_, _, _, _], _ => rfl
  exact ⟨PySem.W.fnOf "field32" "field32" (defArgs sTop) (defBody sTop) (defScope sTop) .none kV5 dc5 pm5 an5 cd5 ct5, fun s us hu => match us, hu with | [_, _, _, _], _ => .of_eq rfl, fun base _ _ => ok_top F5 F1 b1 (PySem.W.mg_of X G a1) F2 b2 (PySem.W.mg_of X G a2) F3 b3 (PySem.W.mg_of X G a3) F4 b4 (PySem.W.mg_of X G a4) (PySem.W.mg_none_of X G z1) (PySem.W.mg_none_of X G z2)⟩
end Wk
open PySem PySem.W PyProof.Rows
set_option maxRecDepth 100000 in
set_option maxHeartbeats 0 in
theorem PySem.Challenge.cw_placelists_s03_field32_holds : PySem.Challenge.rw_placelists_s03_field32.Holds := by
  w_on; k_headS; (case hw => exact ⟨[.int 0, .int 4, .list [], .list []], by decide +kernel, by decide +kernel⟩)
  k_fillS
  refine L2.walk_specK (r := PySem.Challenge.rw_placelists_s03_field32) (k := 4) (CX := L2.CX0) (ps := ["n", "stride", "t", "at"]) (sp := Wk.spTop) (by decide +kernel) rfl rfl ⟨rfl, by decide, by decide⟩ (fun w h Y => PySem.W.kIn_of Y) ?F ?S (fun _ _ _ _ z => z)
  case F =>
    intro w mg fa h Y KX G hmg
    refine' Wk.all_mk KX G hmg ?a1 ?l1 ?c1 ?k1 ?a2 ?l2 ?c2 ?k2 ?a3 ?l3 ?c3 ?k3 ?a4 ?l4 ?c4 ?k4 ?a5 ?l5 ?c5 ?k5 ?z1 ?z2
    (case a1 => k_is)
    (case l1 => k_is)
    (case c1 => k_is)
    (case k1 => k_is)
    (case a2 => k_is)
    (case l2 => k_is)
    (case c2 => k_is)
    (case k2 => k_is)
    (case a3 => k_is)
    (case l3 => k_is)
    (case c3 => k_is)
    (case k3 => k_is)
    (case a4 => k_is)
    (case l4 => k_is)
    (case c4 => k_is)
    (case k4 => k_is)
    (case a5 => k_is)
    (case l5 => k_is)
    (case c5 => k_is)
    (case k5 => k_is)
    (case z1 => k_is)
    (case z2 => k_is)
  case S =>
    intro K H xs a hO hwi hask hx
    have q : (Codec.inInt 0 400 a.1 && (Codec.inInt 4 64 a.2.1 && ((Codec.inLen 0 25600 a.2.2.1 && a.2.2.1.all (Codec.inInt 0 255)) && ((Codec.inLen 0 400 a.2.2.2.1 && a.2.2.2.1.all (Codec.inInt 0 4294967295)) && true)))) = true := hwi
    have q0 := (Wk.and_two q).1
    have r0 := (Wk.and_two q).2
    have q1 := (Wk.and_two r0).1
    have r1 := (Wk.and_two r0).2
    have q2 := (Wk.and_two r1).1
    have r2 := (Wk.and_two r1).2
    have q3 := (Wk.and_two r2).1
    have r3 := (Wk.and_two r2).2
    have p0 := Codec.inInt_iff.mp q0
    have p1 := Codec.inInt_iff.mp q1
    have p2 := Wk.list_in q2
    have p3 := Wk.list_in q3
    obtain ⟨v0, vs0, rfl, h0, hx0⟩ := Wk.dw_cons hx
    obtain rfl := Wk.dw_int h0
    obtain ⟨v1, vs1, rfl, h1, hx1⟩ := Wk.dw_cons hx0
    obtain rfl := Wk.dw_int h1
    obtain ⟨v2, vs2, rfl, h2, hx2⟩ := Wk.dw_cons hx1
    obtain ⟨a2, rfl, s2⟩ := Wk.dw_list h2
    obtain ⟨v3, vs3, rfl, h3, hx3⟩ := Wk.dw_cons hx2
    obtain ⟨a3, rfl, s3⟩ := Wk.dw_list h3
    cases hx3
    exact Wk.top_of p0 p1 p2 p3 s2 s3 hask fun H' p hp => .lst (L2.SqL.of hp) (L2.dw_ints _)
#print axioms PySem.Challenge.cw_placelists_s03_field32_holds
