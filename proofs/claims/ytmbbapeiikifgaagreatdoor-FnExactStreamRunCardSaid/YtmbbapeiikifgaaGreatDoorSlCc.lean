/- How the description of a state goes on: a temporary is put, memory is laid or written, a row is given up. -/
import Derived.Test.YtmbbapeiikifgaaGreatDoorSlB
namespace Go.Proofs.YtmbbapeiikifgaaGreatDoor
open Go
def tput (T : List (Nat × AV)) (d : Nat) (x : AV) : List (Nat × AV) := (d, x) :: T.filter (fun p => p.1 != d)
def tget (T : List (Nat × AV)) (d : Nat) : Option AV := (T.find? fun p => p.1 == d).map (·.2)
def tdrop (T : List (Nat × AV)) (d : Nat) : List (Nat × AV) := T.filter (fun p => p.1 != d)
theorem tget_mem {T : List (Nat × AV)} {d : Nat} {x : AV} (h : tget T d = some x) : (d, x) ∈ T := by
  unfold tget at h
  cases hf : T.find? (fun p => p.1 == d) with
  | none => rw [hf] at h; simp at h
  | some p =>
    rw [hf] at h
    simp at h
    have h1 := List.mem_of_find?_eq_some hf
    have h2 := List.find?_some hf
    simp at h2
    obtain ⟨a, b⟩ := p
    simp at h h2
    subst h; subst h2
    exact h1
def St.mk' (st : St) (T : List (Nat × AV)) : St := ⟨T, st.H⟩
theorem Rel.sub {E : Env} {st : St} {M : List Pl} {Z : CS} {a : Act} {w : World} (h : Rel E st M Z a w) {T : List (Nat × AV)} (ht : ∀ p, p ∈ T → p ∈ st.T) : Rel E ⟨T, st.H⟩ M Z a w :=
  { h with tm := fun d x hx => h.tm d x (ht _ hx) }
theorem Rel.put {E : Env} {st : St} {M : List Pl} {Z : CS} {a : Act} {w : World} (h : Rel E st M Z a w) {d : Nat} (hd : d < E.nt) {x : AV} {v : Value} (hx : ARel M Z w x v) :
    Rel E ⟨tput st.T d x, st.H⟩ M Z (a.put (some d) v) w :=
  { h with
    df := h.df
    nt := by simp [Act.put, h.nt]
    tm := fun d' y hy => by
      simp only [tput, List.mem_cons, Prod.mk.injEq, List.mem_filter, bne_iff_ne] at hy
      rcases hy with ⟨rfl, rfl⟩ | ⟨hy, hne⟩
      · exact ⟨v, by simp [Act.put, h.nt, hd], hx⟩
      · obtain ⟨u, hu, hr⟩ := h.tm d' y hy
        exact ⟨u, by simp only [Act.put]; rw [Array.getElem?_setIfInBounds_ne (Ne.symm hne)]; exact hu, hr⟩ }
theorem Rel.undef {E : Env} {st : St} {M : List Pl} {Z : CS} {a : Act} {w : World} (h : Rel E st M Z a w) (d : Nat) (v : Value) :
    Rel E ⟨tdrop st.T d, st.H⟩ M Z (a.put (some d) v) w :=
  { h with
    df := h.df
    nt := by simp [Act.put, h.nt]
    tm := fun d' y hy => by
      simp only [tdrop, List.mem_filter, bne_iff_ne] at hy
      obtain ⟨u, hu, hr⟩ := h.tm d' y hy.1
      exact ⟨u, by simp only [Act.put]; rw [Array.getElem?_setIfInBounds_ne (Ne.symm hy.2)]; exact hu, hr⟩ }
def St.deps (st : St) : List (Option Nat) := st.T.flatMap (fun p => p.2.deps) ++ st.H.flatMap Ob.deps
def St.free (st : St) (i : Nat) : Bool := !(st.deps.contains (some i))
theorem St.dep_T {st : St} {d : Nat} {x : AV} (h : (d, x) ∈ st.T) {q : Option Nat} (hq : q ∈ x.deps) : q ∈ st.deps :=
  List.mem_append.2 (.inl (List.mem_flatMap.2 ⟨_, h, hq⟩))
theorem St.dep_H {st : St} {i : Nat} {o : Ob} (h : st.H[i]? = some o) {q : Option Nat} (hq : q ∈ o.deps) : q ∈ st.deps :=
  List.mem_append.2 (.inr (List.mem_flatMap.2 ⟨_, List.mem_of_getElem? h, hq⟩))
theorem St.free_ne {st : St} {i : Nat} (h : st.free i = true) {o : Nat} (ho : some o ∈ st.deps) : o ≠ i := by
  rintro rfl
  simp [St.free, ho] at h
theorem Rel.upd {E : Env} {st : St} {M : List Pl} {Z : CS} {a : Act} {w w' : World} (h : Rel E st M Z a w) {X : CS} (hk : Keep w w' X) {i : Nat} {p p' : Pl} {o' : Ob}
    (hp : M[i]? = some p) (hX : ∀ k j, X k j → p.S k j) (hfree : st.free i = true) (ha : p'.av = p.av) (hl : p'.len = p.len) (hc : p'.cap = p.cap)
    (hS : ∀ k j, p'.S k j → p.S k j) (ho : ObRel (M.set i p') Z w' o' p') :
    Rel E ⟨st.T, st.H.set i o'⟩ (M.set i p') Z a w' := by
  have hi : i < M.length := (List.getElem?_eq_some_iff.1 hp).1
  have hget : ∀ (j : Nat) (q : Pl), (M.set i p')[j]? = some q → (j = i ∧ q = p') ∨ (j ≠ i ∧ M[j]? = some q) := fun j q hq => by
    rw [List.getElem?_set] at hq
    by_cases hji : i = j
    · subst hji; rw [if_pos rfl] at hq; simp [hi] at hq; exact .inl ⟨rfl, hq.symm⟩
    · rw [if_neg hji] at hq; exact .inr ⟨Ne.symm hji, hq⟩
  have hmle : MLe M (M.set i p') st.deps := by
    constructor
    · intro o q hq
      by_cases hoi : i = o
      · subst hoi
        rw [hp] at hq; cases hq
        exact ⟨p', by rw [List.getElem?_set]; simp [hi], ha, hl, hc⟩
      · exact ⟨q, by rw [List.getElem?_set, if_neg hoi]; exact hq, rfl, rfl, rfl⟩
    · rintro o ho k j ⟨q, hq, hs⟩
      exact ⟨q, by rw [List.getElem?_set, if_neg (Ne.symm (St.free_ne hfree ho))]; exact hq, hs⟩
  have hdis : ∀ d, d ∈ st.deps → Disj X (zone M Z d) := by
    intro d hd k j hx hz
    cases d with
    | none => exact h.dz i p hp k j (hX k j hx) hz
    | some o =>
      obtain ⟨q, hq, hs⟩ := hz
      exact h.dj i o p q hp hq (Ne.symm (St.free_ne hfree hd)) k j (hX k j hx) hs
  exact
  { df := h.df, nt := h.nt
    tm := fun d x hx => by
      obtain ⟨v, hv, hr⟩ := h.tm d x hx
      exact ⟨v, hv, hr.mono hk (fun _ _ h => h) (hmle.sub fun q hq => St.dep_T (st := st) hx hq) fun q hq => hdis q (St.dep_T (st := st) hx hq)⟩
    ml := by simp [h.ml]
    ob := fun j o q hj hq => by
      have hji := hget j q hq
      rw [List.getElem?_set] at hj
      rcases hji with ⟨rfl, rfl⟩ | ⟨hne, hq'⟩
      · have : j < st.H.length := h.ml ▸ hi
        rw [if_pos rfl] at hj; simp [this] at hj
        subst hj; exact ho
      · rw [if_neg (Ne.symm hne)] at hj
        exact (h.ob j o q hj hq').mono hk (fun _ _ h => h) (hmle.sub fun x hx => St.dep_H hj hx) (fun x hx => hdis x (St.dep_H hj hx))
          fun k l hx hs => h.dj i j p q hp hq' (Ne.symm hne) k l (hX k l hx) hs
    dj := fun j l q r hq hr hne k x h1 h2 => by
      rcases hget j q hq with ⟨rfl, rfl⟩ | ⟨h3, h4⟩ <;> rcases hget l r hr with ⟨rfl, rfl⟩ | ⟨h5, h6⟩
      · exact hne rfl
      · exact h.dj j l p r hp h6 hne k x (hS k x h1) h2
      · exact h.dj j l q p h4 hp hne k x h1 (hS k x h2)
      · exact h.dj j l q r h4 h6 hne k x h1 h2
    dz := fun j q hq k x h1 h2 => by
      rcases hget j q hq with ⟨rfl, rfl⟩ | ⟨h3, h4⟩
      · exact h.dz j p hp k x (hS k x h1) h2
      · exact h.dz j q h4 k x h1 h2
    lt := fun j q k x hq h1 => Nat.lt_of_lt_of_le (by
      rcases hget j q hq with ⟨rfl, rfl⟩ | ⟨h3, h4⟩
      · exact h.lt j p k x hp (hS k x h1)
      · exact h.lt j q k x h4 h1) hk.size
    zl := fun k x hz => Nat.lt_of_lt_of_le (h.zl k x hz) hk.size
    kp := h.kp.trans hk fun k x hx => h.os i p k x hp (hX k x hx)
    os := fun j q k x hq h1 => by
      rcases hget j q hq with ⟨rfl, rfl⟩ | ⟨h3, h4⟩
      · exact h.os j p k x hp (hS k x h1)
      · exact h.os j q k x h4 h1
    zs := h.zs
    z0 := h.z0
    gl := h.gl.keep hk (fun k j hx => h.dz i p hp k j (hX k j hx)) fun _ _ h => h
    g := fun j hj => by
      obtain ⟨q, p0, hq, hp0, e1, e2, e3⟩ := h.g j hj
      by_cases hji : i = j
      · subst hji
        rw [hp] at hq; cases hq
        exact ⟨p', p0, by rw [List.getElem?_set]; simp [hi], hp0, ha.trans e1, hl.trans e2, hc.trans e3⟩
      · exact ⟨q, p0, by rw [List.getElem?_set, if_neg hji]; exact hq, hp0, e1, e2, e3⟩ }
theorem Rel.new {E : Env} {st : St} {M : List Pl} {Z : CS} {a : Act} {w w' : World} (h : Rel E st M Z a w) (hk : Keep w w' (fun _ _ => False)) {p : Pl} {o : Ob}
    (hS : ∀ k j, p.S k j → w.heap.size ≤ k ∧ k < w'.heap.size) (ho : ObRel (M ++ [p]) Z w' o p) :
    Rel E ⟨st.T, st.H ++ [o]⟩ (M ++ [p]) Z a w' := by
  have hget : ∀ (j : Nat) (q : Pl), (M ++ [p])[j]? = some q → (j = M.length ∧ q = p) ∨ (j < M.length ∧ M[j]? = some q) := fun j q hq => by
    rw [List.getElem?_append] at hq
    split at hq
    · exact .inr ⟨by assumption, hq⟩
    · rename_i hj
      have : j - M.length = 0 := by
        rcases Nat.eq_zero_or_pos (j - M.length) with h | h
        · exact h
        · rw [List.getElem?_eq_none (by simp; omega)] at hq; cases hq
      rw [this] at hq; simp at hq
      exact .inl ⟨by omega, hq.symm⟩
  have hnew : ∀ (j : Nat) (q : Pl) k x, M[j]? = some q → q.S k x → p.S k x → False := fun j q k x hq h1 h2 => by
    have := h.lt j q k x hq h1
    have := (hS k x h2).1
    omega
  exact
  { df := h.df, nt := h.nt
    tm := fun d x hx => by
      obtain ⟨v, hv, hr⟩ := h.tm d x hx
      exact ⟨v, hv, hr.mono hk (fun _ _ h => h) (MLe.append M [p] _) fun _ _ _ _ h => h.elim⟩
    ml := by simp [h.ml]
    ob := fun j o' q hj hq => by
      rcases hget j q hq with ⟨rfl, rfl⟩ | ⟨hlt, hq'⟩
      · rw [h.ml] at hj; simp at hj; subst hj; exact ho
      · rw [List.getElem?_append_left (h.ml ▸ hlt)] at hj
        exact (h.ob j o' q hj hq').mono hk (fun _ _ h => h) (MLe.append M [p] _) (fun _ _ _ _ h => h.elim) fun _ _ h => h.elim
    dj := fun j l q r hq hr hne k x h1 h2 => by
      rcases hget j q hq with ⟨rfl, rfl⟩ | ⟨h3, h4⟩ <;> rcases hget l r hr with ⟨rfl, rfl⟩ | ⟨h5, h6⟩
      · exact hne rfl
      · exact hnew l r k x h6 h2 h1
      · exact hnew j q k x h4 h1 h2
      · exact h.dj j l q r h4 h6 hne k x h1 h2
    dz := fun j q hq k x h1 h2 => by
      rcases hget j q hq with ⟨rfl, rfl⟩ | ⟨h3, h4⟩
      · have := (hS k x h1).1
        have := h.zl k x h2
        omega
      · exact h.dz j q h4 k x h1 h2
    lt := fun j q k x hq h1 => by
      rcases hget j q hq with ⟨rfl, rfl⟩ | ⟨h3, h4⟩
      · exact (hS k x h1).2
      · exact Nat.lt_of_lt_of_le (h.lt j q k x h4 h1) hk.size
    zl := fun k x hz => Nat.lt_of_lt_of_le (h.zl k x hz) hk.size
    kp := h.kp.trans hk fun _ _ h => h.elim
    os := fun j q k x hq h1 => by
      rcases hget j q hq with ⟨rfl, rfl⟩ | ⟨h3, h4⟩
      · exact .inr (Nat.le_trans h.kp.size (hS k x h1).1)
      · exact h.os j q k x h4 h1
    zs := h.zs
    z0 := h.z0
    gl := h.gl.keep hk (fun _ _ h => h.elim) fun _ _ h => h
    g := fun j hj => by
      obtain ⟨q, p0, hq, hr⟩ := h.g j hj
      exact ⟨q, p0, by rw [List.getElem?_append_left (List.getElem?_eq_some_iff.1 hq).1]; exact hq, hr⟩ }
theorem Rel.world {E : Env} {st : St} {M : List Pl} {Z : CS} {a : Act} {w w' : World} (h : Rel E st M Z a w) (hk : Keep w w' (fun _ _ => False)) : Rel E st M Z a w' :=
  { df := h.df, nt := h.nt
    tm := fun d x hx => by
      obtain ⟨v, hv, hr⟩ := h.tm d x hx
      exact ⟨v, hv, hr.mono hk (fun _ _ h => h) (MLe.refl M _) fun _ _ _ _ h => h.elim⟩
    ml := h.ml
    ob := fun j o' q hj hq => (h.ob j o' q hj hq).mono hk (fun _ _ h => h) (MLe.refl M _) (fun _ _ _ _ h => h.elim) fun _ _ h => h.elim
    dj := h.dj, dz := h.dz
    lt := fun j q k x hq h1 => Nat.lt_of_lt_of_le (h.lt j q k x hq h1) hk.size
    zl := fun k x hz => Nat.lt_of_lt_of_le (h.zl k x hz) hk.size
    kp := h.kp.trans hk fun _ _ h => h.elim
    os := h.os, zs := h.zs, z0 := h.z0, gl := h.gl.keep hk (fun _ _ h => h.elim) fun _ _ h => h, g := h.g }
end Go.Proofs.YtmbbapeiikifgaaGreatDoor
