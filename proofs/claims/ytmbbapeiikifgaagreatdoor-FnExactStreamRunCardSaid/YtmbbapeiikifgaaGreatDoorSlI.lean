/- New memory: boxes, rows; a state in which some chunks are given up for others. -/
import Derived.Test.YtmbbapeiikifgaaGreatDoorSlHh
namespace Go.Proofs.YtmbbapeiikifgaaGreatDoor
open Go
section
variable {E : Env} {st : St} {M : List Pl} {Z : CS} {a : Act} {w w' : World} {o : Oper}
theorem Rel.touch (h : Rel E st M Z a w) {X : CS} (hk : Keep w w' X) (I : List Nat) (hfree : ∀ i, i ∈ I → st.free i = true)
    (hX : ∀ k j, X k j → ∃ i p, i ∈ I ∧ M[i]? = some p ∧ p.S k j) {M' : List Pl} {H' : List Ob} (hlen : M'.length = H'.length)
    (hsame : ∀ i, i < M.length → i ∉ I → M'[i]? = M[i]? ∧ H'[i]? = st.H[i]?)
    (hplace : ∀ i p, i ∈ I → M[i]? = some p → ∃ p', M'[i]? = some p' ∧ p'.av = p.av ∧ p'.len = p.len ∧ p'.cap = p.cap)
    (hS : ∀ (i : Nat) (p' : Pl) k j, M'[i]? = some p' → (i ∈ I ∨ M.length ≤ i) → p'.S k j → (w.heap.size ≤ k ∧ k < w'.heap.size) ∨ ∃ i0 p, i0 ∈ I ∧ M[i0]? = some p ∧ p.S k j)
    (hdj : ∀ (i j : Nat) (p q : Pl), M'[i]? = some p → M'[j]? = some q → (i ∈ I ∨ M.length ≤ i) → (j ∈ I ∨ M.length ≤ j) → i ≠ j → Disj p.S q.S)
    {Z' : CS} (hZ : ∀ k j, Z k j → Z' k j) (hZ2 : ∀ k j, Z' k j → Z k j ∨ (∃ i0 p, i0 ∈ I ∧ M[i0]? = some p ∧ p.S k j) ∨ (w.heap.size ≤ k ∧ k < w'.heap.size))
    (hdz : ∀ (i : Nat) (p : Pl), M'[i]? = some p → (i ∈ I ∨ M.length ≤ i) → Disj p.S Z')
    (hob : MLe M M' st.deps → (∀ d, d ∈ st.deps → Disj X (zone M Z d)) → ∀ (i : Nat) (o : Ob) (p : Pl), H'[i]? = some o → M'[i]? = some p → (i ∈ I ∨ M.length ≤ i) → ObRel M' Z' w' o p) : Rel E ⟨st.T, H'⟩ M' Z' a w' := by
  have hcase : ∀ (i : Nat) (p : Pl), M'[i]? = some p → (i ∈ I ∨ M.length ≤ i) ∨ (i < M.length ∧ i ∉ I ∧ M[i]? = some p ∧ H'[i]? = st.H[i]?) := fun i p hp => by
    by_cases hi : i ∈ I
    · exact .inl (.inl hi)
    · rcases Nat.lt_or_ge i M.length with hl | hl
      · have := hsame i hl hi
        exact .inr ⟨hl, hi, this.1 ▸ hp, this.2⟩
      · exact .inl (.inr hl)
  have hmle : MLe M M' st.deps := by
    constructor
    · intro o p hp
      by_cases hi : o ∈ I
      · exact hplace o p hi hp
      · exact ⟨p, (hsame o (List.getElem?_eq_some_iff.1 hp).1 hi).1.trans hp, rfl, rfl, rfl⟩
    · rintro o ho k j ⟨q, hq, hs⟩
      have hi : o ∉ I := fun hi => St.free_ne (hfree o hi) ho rfl
      exact ⟨q, (hsame o (List.getElem?_eq_some_iff.1 hq).1 hi).1.trans hq, hs⟩
  have hXd : ∀ k j, X k j → ∀ (i : Nat) (p : Pl), i ∉ I → M[i]? = some p → ¬ p.S k j := fun k j hx i p hi hp hs => by
    obtain ⟨i0, p0, hi0, hp0, hs0⟩ := hX k j hx
    exact h.dj i0 i p0 p hp0 hp (fun e => hi (e ▸ hi0)) k j hs0 hs
  have hdis : ∀ d, d ∈ st.deps → Disj X (zone M Z d) := by
    intro d hd k j hx hz
    cases d with
    | none => obtain ⟨i0, p0, hi0, hp0, hs0⟩ := hX k j hx; exact h.dz i0 p0 hp0 k j hs0 hz
    | some o =>
      obtain ⟨q, hq, hs⟩ := hz
      exact hXd k j hx o q (fun hi => St.free_ne (hfree o hi) hd rfl) hq hs
  have hold : ∀ (i : Nat) (p : Pl) k j, i ∈ I ∨ M.length ≤ i → M'[i]? = some p → p.S k j → ∀ (i1 : Nat) (q : Pl), i1 ∉ I → M[i1]? = some q → ¬ q.S k j := by
    intro i p k j hi hp hs i1 q hi1 hq hqs
    rcases hS i p k j hp hi hs with ⟨h1, _⟩ | ⟨i0, p0, hi0, hp0, hs0⟩
    · have := h.lt i1 q k j hq hqs; omega
    · exact h.dj i0 i1 p0 q hp0 hq (fun e => hi1 (e ▸ hi0)) k j hs0 hqs
  exact
  { df := h.df, nt := h.nt
    tm := fun d x hx => by
      obtain ⟨v, hv, hr⟩ := h.tm d x hx
      exact ⟨v, hv, hr.mono hk hZ (hmle.sub fun q hq => St.dep_T (st := st) hx hq) fun q hq => hdis q (St.dep_T (st := st) hx hq)⟩
    ml := hlen
    ob := fun i o p ho hp => by
      rcases hcase i p hp with hi | ⟨hl, hi, hp0, hH⟩
      · exact hob hmle hdis i o p ho hp hi
      · rw [hH] at ho
        exact (h.ob i o p ho hp0).mono hk hZ (hmle.sub fun x hx => St.dep_H ho hx) (fun x hx => hdis x (St.dep_H ho hx)) fun k j hx hs => hXd k j hx i p hi hp0 hs
    dj := fun i j p q hp hq hne k x h1 h2 => by
      rcases hcase i p hp with hi | ⟨hl, hi, hp0, hH⟩ <;> rcases hcase j q hq with hj | ⟨hl', hj, hq0, hH'⟩
      · exact hdj i j p q hp hq hi hj hne k x h1 h2
      · exact hold i p k x hi hp h1 j q hj hq0 h2
      · exact hold j q k x hj hq h2 i p hi hp0 h1
      · exact h.dj i j p q hp0 hq0 hne k x h1 h2
    dz := fun i p hp k x h1 h2 => by
      rcases hcase i p hp with hi | ⟨hl, hi, hp0, hH⟩
      · exact hdz i p hp hi k x h1 h2
      · rcases hZ2 k x h2 with h3 | ⟨i0, p0, hi0, hp1, hs0⟩ | ⟨h3, _⟩
        · exact h.dz i p hp0 k x h1 h3
        · exact h.dj i0 i p0 p hp1 hp0 (fun e => hi (e ▸ hi0)) k x hs0 h1
        · have := h.lt i p k x hp0 h1; omega
    lt := fun i p k x hp h1 => by
      rcases hcase i p hp with hi | ⟨hl, hi, hp0, hH⟩
      · rcases hS i p k x hp hi h1 with ⟨_, h3⟩ | ⟨i0, p0, hi0, hp0, hs0⟩
        · exact h3
        · exact Nat.lt_of_lt_of_le (h.lt i0 p0 k x hp0 hs0) hk.size
      · exact Nat.lt_of_lt_of_le (h.lt i p k x hp0 h1) hk.size
    zl := fun k x hz => by
      rcases hZ2 k x hz with h3 | ⟨i0, p0, _, hp1, hs0⟩ | ⟨_, h3⟩
      · exact Nat.lt_of_lt_of_le (h.zl k x h3) hk.size
      · exact Nat.lt_of_lt_of_le (h.lt i0 p0 k x hp1 hs0) hk.size
      · exact h3
    kp := h.kp.trans hk fun k x hx => by
      obtain ⟨i0, p0, hi0, hp0, hs0⟩ := hX k x hx
      exact h.os i0 p0 k x hp0 hs0
    os := fun i p k x hp h1 => by
      rcases hcase i p hp with hi | ⟨hl, hi, hp0, hH⟩
      · rcases hS i p k x hp hi h1 with ⟨h3, _⟩ | ⟨i0, p0, hi0, hp0, hs0⟩
        · exact .inr (Nat.le_trans h.kp.size h3)
        · exact h.os i0 p0 k x hp0 hs0
      · exact h.os i p k x hp0 h1
    zs := fun k x hz => by
      rcases hZ2 k x hz with h3 | ⟨i0, p0, _, hp1, hs0⟩ | ⟨h3, _⟩
      · exact h.zs k x h3
      · exact .inr (h.os i0 p0 k x hp1 hs0)
      · exact .inr (.inr (Nat.le_trans h.kp.size h3))
    z0 := fun k x hz => hZ k x (h.z0 k x hz)
    gl := h.gl.keep hk (fun k j hx hz => by obtain ⟨i0, p0, hi0, hp0, hs0⟩ := hX k j hx; exact h.dz i0 p0 hp0 k j hs0 hz) hZ
    g := fun i hi => by
      obtain ⟨p, p0, hp, hp0, e1, e2, e3⟩ := h.g i hi
      by_cases hI : i ∈ I
      · obtain ⟨p', hp', a1, a2, a3⟩ := hplace i p hI hp
        exact ⟨p', p0, hp', hp0, a1.trans e1, a2.trans e2, a3.trans e3⟩
      · exact ⟨p, p0, (hsame i (List.getElem?_eq_some_iff.1 hp).1 hI).1.trans hp, hp0, e1, e2, e3⟩ }
theorem Keep.push (w : World) (ob : Obj) : Keep w { w with heap := w.heap.push ob } (fun _ _ => False) := by
  refine ⟨rfl, rfl, rfl, by simp, fun k hk => .inl ?_⟩
  simp [Array.getElem?_push, Nat.ne_of_lt hk]
theorem push_get (w : World) (ob : Obj) : ({ w with heap := w.heap.push ob } : World).heap[w.heap.size]? = some ob := by simp
theorem getElem?_lastP (M : List Pl) (p q : Pl) (i : Nat) (h : (M ++ [p])[i]? = some q) : (i < M.length ∧ M[i]? = some q) ∨ (i = M.length ∧ q = p) := by
  rw [List.getElem?_append] at h
  split at h
  · exact .inl ⟨by assumption, h⟩
  · rename_i hj
    have : i - M.length = 0 := by
      rcases Nat.eq_zero_or_pos (i - M.length) with h0 | h0
      · exact h0
      · rw [List.getElem?_eq_none (by simp; omega)] at h; cases h
    rw [this] at h; simp at h
    exact .inr ⟨by omega, h.symm⟩
theorem Rel.newBox (h : Rel E st M Z a w) {cs : List C} {vs : List Value} (hc : CsRel M Z w cs vs) (t : TypeId) :
    ∃ p, Rel E ⟨st.T, st.H ++ [.box cs]⟩ (M ++ [p]) Z a { w with heap := w.heap.push (.cells vs.toArray t) } ∧ p.av = some ⟨w.heap.size, 0, none⟩ ∧ ∀ k j, p.S k j → k = w.heap.size := by
  have hk := Keep.push w (.cells vs.toArray t)
  have hlen := hc.len
  refine ⟨⟨some ⟨w.heap.size, 0, none⟩, 0, 0, fun k j => k = w.heap.size ∧ 0 ≤ j ∧ j < 0 + cs.length⟩, h.new hk (fun k j ⟨h1, _⟩ => by simp; omega) ?_, rfl, fun k j h => h.1⟩
  refine ⟨w.heap.size, 0, rfl, fun k j => Iff.rfl, fun i hi => ?_, vs, hc.mono hk (fun _ _ h => h) (MLe.append M _ _) (fun _ _ _ _ h => h.elim), fun i v hi => ?_⟩
  · simp [World.frozen?]
  · refine cell_iff.2 ⟨vs.toArray, t, (0, 0), push_get w _, ?_⟩
    rw [Nat.zero_add]; simpa using hi
theorem new_fresh {M : List Pl} {p : Pl} {w : World} {X : CS} (hS : ∀ k j, p.S k j → k = w.heap.size) : ∀ (i : Nat) (p' : Pl) k j, (M ++ [p])[i]? = some p' → M.length ≤ i → p'.S k j → fresh w k j ∨ X k j := by
  intro i p' k j hi hl hs
  rcases getElem?_lastP M p p' i hi with ⟨h, _⟩ | ⟨_, rfl⟩
  · omega
  · exact .inl (Nat.le_of_eq (hS k j hs).symm)
def zeroCs (P : Program) (t : TypeId) : Option (List C) :=
  match P.info? t with
  | some i => match i.zero with
    | some z => (ofPV z).map pcells
    | none => none
  | none => none
def evAlloc (P : Program) (st : St) (t : TypeId) : Option MRes :=
  (zeroCs P t).map fun cs => ⟨some (.p (.c (.ptr st.H.length 0))), ⟨st.T, st.H ++ [.box cs]⟩, none, .no⟩
def evBox (st : St) (x : Operand) : Option MRes :=
  match opd st.T x with
  | some (.p pv) => some ⟨some (.p (.c (.ptr st.H.length 0))), ⟨st.T, st.H ++ [.box (pcells pv)]⟩, none, .no⟩
  | _ => none
theorem newVar_run {P : Program} (t : TypeId) (v : Value) (w : World) : (newVar t v).run P w = .ok ⟨w.heap.size, 0, none⟩ { w with heap := w.heap.push (.cells v.cells t) } := by
  simp [newVar, newRow, newObj, Sem.run]
theorem zeroCs_spec {P : Program} {t : TypeId} {cs : List C} (h : zeroCs P t = some cs) : ∃ z pv, (∀ w : World, (zeroValue t).run P w = .ok z w) ∧ ofPV z = some pv ∧ cs = pcells pv := by
  unfold zeroCs at h
  split at h
  · rename_i i hi
    split at h
    · rename_i z hz
      simp only [Option.map_eq_some_iff] at h
      obtain ⟨pv, hp, rfl⟩ := h
      exact ⟨z, pv, fun w => by simp [zeroValue, typeInfo, program, Sem.run, hi, hz], hp, rfl⟩
    · cases h
  · cases h
theorem ptr_last {M : List Pl} {Z : CS} {w : World} {p : Pl} {b : Nat} (n : Nat) (hn : M.length = n) (ha : p.av = some ⟨b, 0, none⟩) : ARel (M ++ [p]) Z w (.p (.c (.ptr n 0))) (.pointer (some ⟨b, 0, none⟩)) :=
  ⟨p, b, 0, by subst hn; simp, ha, rfl⟩
theorem evAlloc_ok {r : MRes} (hr : Rel E st M Z a w) {t : TypeId} (ho : o.op = .alloc t) (h : evAlloc E.P st t = some r) : MOk E M Z a w o r := by
  simp only [evAlloc, Option.map_eq_some_iff] at h
  obtain ⟨cs, hcs, rfl⟩ := h
  obtain ⟨z, pv, hz, hpv, rfl⟩ := zeroCs_spec hcs
  obtain ⟨p, hp, ha, hS⟩ := hr.newBox (ofPV_rel (M := M) (Z := Z) (w := w) hpv).cells t
  refine ⟨_, _, hp, MSub.append M _, new_fresh hS, Keep.push w _, _, ?_, ptr_last _ hr.ml ha⟩
  simp [execOp, ho, Instr.alloc, hz, newVar_run]
theorem evBox_ok {r : MRes} (hr : Rel E st M Z a w) {t : TypeId} {x : Operand} (ho : o.op = .box t x) (h : evBox st x = some r) : MOk E M Z a w o r := by
  unfold evBox at h
  split at h
  · rename_i pv hx
    cases h
    obtain ⟨p, hp, ha, hS⟩ := hr.newBox (PRel.cells (opd_rel hr hx)) t
    refine ⟨_, _, hp, MSub.append M _, new_fresh hS, Keep.push w _, _, ?_, ptr_last _ hr.ml ha⟩
    simp [execOp, ho, Instr.box, newVar_run]
  · cases h
end
end Go.Proofs.YtmbbapeiikifgaaGreatDoor
