/- A call: the chunks that are handed over, what comes back. -/
import Derived.Test.YtmbbapeiikifgaaGreatDoorSlN
namespace Go.Proofs.YtmbbapeiikifgaaGreatDoor
open Go
inductive Sel where
  | whole (o : Nat) | win (o j n : Nat)
def Sel.o : Sel → Nat
  | .whole o => o
  | .win o _ _ => o
def selPtr : List Sel → Nat → Nat → Nat → Option (Nat × Nat)
  | [], _, _, _ => none
  | .whole o' :: r, i, o, j => if o' = o then some (i, j) else selPtr r (i + 1) o j
  | .win o' j0 n :: r, i, o, j => if o' = o ∧ j0 ≤ j ∧ j < j0 + n then some (i, j - j0) else selPtr r (i + 1) o j
def selWhole : List Sel → Nat → Nat → Option Nat
  | [], _, _ => none
  | .whole o' :: r, i, o => if o' = o then some i else selWhole r (i + 1) o
  | .win _ _ _ :: r, i, o => selWhole r (i + 1) o
def touched (sel : List Sel) (o : Nat) : Bool := sel.any fun s => s.o == o
def toCaps (sel : List Sel) : List (Nat × Nat) → Option (List (Nat × Nat))
  | [] => some []
  | (o, j) :: r => match selPtr sel 0 o j, toCaps sel r with | some q, some r' => some (q :: r') | _, _ => none
def toC (brw : Bool) (sel : List Sel) (H : List Ob) : C → Option C
  | .ptr o j => (selPtr sel 0 o j).map fun q => .ptr q.1 q.2
  | .sl o => match selWhole sel 0 o with
    | some i => some (.sl i)
    | none => if brw && !(touched sel o) then (match H[o]? with | some (.row t xs) => some (.vw none t xs) | _ => none) else none
  | .vw none t xs => some (.vw none t xs)
  | .vw (some o) t xs => if brw && !(touched sel o) then some (.vw none t xs) else none
  | .vp none t x j => some (.vp none t x j)
  | .vp (some o) t x j => if brw && !(touched sel o) then some (.vp none t x j) else none
  | .ep o _ t x j => if brw && !(touched sel o) then some (.vp none t x j) else none
  | .fn f caps => (toCaps sel caps).map (.fn f)
  | .mp _ => none
  | c => some c
def toCs (brw : Bool) (sel : List Sel) (H : List Ob) : List C → Option (List C)
  | [] => some []
  | c :: cs => match toC brw sel H c, toCs brw sel H cs with | some c', some cs' => some (c' :: cs') | _, _ => none
def toP (brw : Bool) (sel : List Sel) (H : List Ob) : PV → Option PV
  | .c x => (toC brw sel H x).map .c
  | .agg xs => (toCs brw sel H xs).map .agg
def toA (brw : Bool) (sel : List Sel) (st : St) : List Operand → Option (List AV)
  | [] => some []
  | x :: xs => match opd st.T x, toA brw sel st xs with
    | some (.p v), some r => (toP brw sel st.H v).map fun v' => .p v' :: r
    | _, _ => none
def toH (brw : Bool) (sel0 : List Sel) (H : List Ob) : List Sel → Option (List Ob)
  | [] => some []
  | .whole o :: r => match H[o]?, toH brw sel0 H r with
    | some (.box cs), some r' => (toCs brw sel0 H cs).map fun cs' => .box cs' :: r'
    | some ob, some r' => some (ob :: r')
    | _, _ => none
  | .win o j n :: r => match H[o]?, toH brw sel0 H r with
    | some (.box cs), some r' => if j + n ≤ cs.length then (toCs brw sel0 H ((cs.drop j).take n)).map fun cs' => .box cs' :: r' else none
    | _, _ => none
def selApart : Sel → Sel → Bool
  | .win o j n, .win o' j' n' => o != o' || (decide (j + n ≤ j') || decide (j' + n' ≤ j))
  | s, s' => s.o != s'.o
def selOk : List Sel → Bool
  | [] => true
  | s :: r => r.all (selApart s) && selOk r
def selPl (M : List Pl) : Sel → Pl
  | .whole o => (M[o]?).getD nilPl
  | .win o j n => match M[o]? with
    | some p => match p.av with
      | some a => ⟨some ⟨a.block, a.off + j, none⟩, 0, 0, fun k x => k = a.block ∧ a.off + j ≤ x ∧ x < a.off + j + n⟩
      | none => nilPl
    | none => nilPl
def selM (M : List Pl) (sel : List Sel) : List Pl := sel.map (selPl M)
def lent (brw : Bool) (M : List Pl) (sel : List Sel) : CS := fun k j => brw = true ∧ ∃ (o : Nat) (p : Pl), touched sel o = false ∧ M[o]? = some p ∧ p.S k j
def selZ (brw : Bool) (M : List Pl) (Z : CS) (sel : List Sel) : CS := fun k j => Z k j ∨ lent brw M sel k j
theorem selPtr_spec : ∀ {sel : List Sel} {i0 o j q1 q2 : Nat}, selPtr sel i0 o j = some (q1, q2) → ∃ s, sel[q1 - i0]? = some s ∧ i0 ≤ q1 ∧
    ((s = .whole o ∧ q2 = j) ∨ ∃ j0 n, s = .win o j0 n ∧ j0 ≤ j ∧ j < j0 + n ∧ q2 = j - j0)
  | [], _, _, _, _, _, h => by simp [selPtr] at h
  | .whole o' :: r, i0, o, j, q1, q2, h => by
    simp only [selPtr] at h
    split at h
    · rename_i e; cases h; subst e; exact ⟨.whole o', by simp, Nat.le_refl _, .inl ⟨rfl, rfl⟩⟩
    · obtain ⟨s, hs, hle, hh⟩ := selPtr_spec h
      exact ⟨s, by rw [show q1 - i0 = (q1 - (i0 + 1)) + 1 from by omega]; simpa using hs, by omega, hh⟩
  | .win o' j0 n :: r, i0, o, j, q1, q2, h => by
    simp only [selPtr] at h
    split at h
    · rename_i e; cases h; obtain ⟨e, e1, e2⟩ := e; subst e; exact ⟨.win o' j0 n, by simp, Nat.le_refl _, .inr ⟨j0, n, rfl, e1, e2, rfl⟩⟩
    · obtain ⟨s, hs, hle, hh⟩ := selPtr_spec h
      exact ⟨s, by rw [show q1 - i0 = (q1 - (i0 + 1)) + 1 from by omega]; simpa using hs, by omega, hh⟩
theorem selWhole_spec : ∀ {sel : List Sel} {i0 o i : Nat}, selWhole sel i0 o = some i → sel[i - i0]? = some (.whole o) ∧ i0 ≤ i
  | [], _, _, _, h => by simp [selWhole] at h
  | .whole o' :: r, i0, o, i, h => by
    simp only [selWhole] at h
    split at h
    · rename_i e; cases h; subst e; simp
    · obtain ⟨hs, hle⟩ := selWhole_spec h
      exact ⟨by rw [show i - i0 = (i - (i0 + 1)) + 1 from by omega]; simpa using hs, by omega⟩
  | .win o' j0 n :: r, i0, o, i, h => by
    simp only [selWhole] at h
    obtain ⟨hs, hle⟩ := selWhole_spec h
    exact ⟨by rw [show i - i0 = (i - (i0 + 1)) + 1 from by omega]; simpa using hs, by omega⟩
section
variable {E : Env} {st : St} {M : List Pl} {Z : CS} {a : Act} {w : World} {brw : Bool} {sel : List Sel}
theorem selM_get {i : Nat} {s : Sel} (h : sel[i]? = some s) : (selM M sel)[i]? = some (selPl M s) := by simp [selM, h]
theorem toPtr_rel {o j q1 q2 : Nat} (h : selPtr sel 0 o j = some (q1, q2)) {p : Pl} {b f : Nat} (hp : M[o]? = some p) (ha : p.av = some ⟨b, f, none⟩) :
    ∃ p' f', (selM M sel)[q1]? = some p' ∧ p'.av = some ⟨b, f', none⟩ ∧ f' + q2 = f + j := by
  obtain ⟨s, hs, _, hh⟩ := selPtr_spec h
  rw [Nat.sub_zero] at hs
  rcases hh with ⟨rfl, rfl⟩ | ⟨j0, n, rfl, h1, h2, rfl⟩
  · exact ⟨p, f, by rw [selM_get hs]; simp [selPl, hp], ha, rfl⟩
  · refine ⟨_, f + j0, selM_get hs, by simp [selPl, hp, ha], by omega⟩
theorem toCaps_rel : ∀ {cs cs' : List (Nat × Nat)} {vs : List Value}, toCaps sel cs = some cs' → CapsRel M cs vs → CapsRel (selM M sel) cs' vs
  | [], _, _, hc, hr => by simp only [toCaps, Option.some.injEq] at hc; subst hc; exact hr
  | (o, j) :: r, cs', vs, hc, ⟨p, b, f, r', hv, hp, ha, hr⟩ => by
    simp only [toCaps] at hc
    split at hc
    · rename_i q r'' ho hrr
      cases hc
      obtain ⟨p', f', hp', ha', hf⟩ := toPtr_rel (q1 := q.1) (q2 := q.2) ho hp ha
      exact ⟨p', b, f', r', by rw [hf]; exact hv, hp', ha', toCaps_rel hrr hr⟩
    · cases hc
theorem lent_of {o : Nat} (h : (brw && !(touched sel o)) = true) : ∀ k j, zone M Z (some o) k j → selZ brw M Z sel k j := by
  simp only [Bool.and_eq_true, Bool.not_eq_true'] at h
  rintro k j ⟨p, hp, hs⟩
  exact .inr ⟨h.1, o, p, h.2, hp, hs⟩
theorem toC_rel (hH : HRel st.H M Z w) {c c' : C} {v : Value} (hc : toC brw sel st.H c = some c') (hr : CRel M Z w c v) : CRel (selM M sel) (selZ brw M Z sel) w c' v := by
  cases c with
  | ptr o j =>
    simp only [toC, Option.map_eq_some_iff] at hc
    obtain ⟨q, hq, rfl⟩ := hc
    obtain ⟨p, b, f, hp, ha, hv⟩ := hr
    obtain ⟨p', f', hp', ha', hf⟩ := toPtr_rel (q1 := q.1) (q2 := q.2) hq hp ha
    exact ⟨p', b, f', hp', ha', by rw [hf]; exact hv⟩
  | sl o =>
    simp only [toC] at hc
    obtain ⟨p, hp, hv⟩ := hr
    split at hc
    · rename_i i hi
      cases hc
      obtain ⟨hs, _⟩ := selWhole_spec hi
      rw [Nat.sub_zero] at hs
      exact ⟨p, by rw [selM_get hs]; simp [selPl, hp], hv⟩
    · split at hc
      · rename_i hb
        split at hc
        · rename_i t xs hx
          cases hc
          have hrow : RowOwn w t xs p := hH.ob o _ p hx hp
          have := hrow.rd
          rw [← hv] at this
          exact this.mono fun k j hs => lent_of (Z := Z) hb k j ⟨p, hp, hs⟩
        · cases hc
      · cases hc
  | vw d t xs =>
    cases d with
    | none => simp only [toC, Option.some.injEq] at hc; subst hc; exact SlRd.mono (fun _ _ h => Or.inl h) hr
    | some o =>
      simp only [toC] at hc
      split at hc
      · rename_i hb; cases hc; exact SlRd.mono (lent_of hb) hr
      · cases hc
  | vp d t x j =>
    obtain ⟨b, f, he, hv⟩ := hr
    cases d with
    | none => simp only [toC, Option.some.injEq] at hc; subst hc; exact ⟨b, f, he.mono fun _ _ h => Or.inl h, hv⟩
    | some o =>
      simp only [toC] at hc
      split at hc
      · rename_i hb; cases hc; exact ⟨b, f, he.mono (lent_of hb), hv⟩
      · cases hc
  | ep o i t x j =>
    obtain ⟨p, b, hp, ha, hi, he, hv⟩ := hr
    simp only [toC] at hc
    split at hc
    · rename_i hb; cases hc
      exact ⟨b, i * t.sz, he.mono fun k j hs => lent_of (Z := Z) hb k j ⟨p, hp, hs⟩, hv⟩
    · cases hc
  | fn f caps =>
    simp only [toC, Option.map_eq_some_iff] at hc
    obtain ⟨caps', hcs, rfl⟩ := hc
    obtain ⟨vs, hv, hcr⟩ := hr
    exact ⟨vs, hv, toCaps_rel hcs hcr⟩
  | mp o => simp only [toC] at hc; cases hc
  | _ => simp only [toC, Option.some.injEq] at hc; subst hc; exact hr
theorem toCs_rel (hH : HRel st.H M Z w) : ∀ {cs cs' : List C} {vs : List Value}, toCs brw sel st.H cs = some cs' → CsRel M Z w cs vs → CsRel (selM M sel) (selZ brw M Z sel) w cs' vs
  | [], _, _, hc, hr => by simp only [toCs, Option.some.injEq] at hc; subst hc; exact hr
  | c :: r, cs', vs, hc, ⟨v, r', hv, h1, h2⟩ => by
    simp only [toCs] at hc
    split at hc
    · rename_i c' r'' ho hrr
      cases hc
      exact ⟨v, r', hv, toC_rel hH ho h1, toCs_rel hH hrr h2⟩
    · cases hc
theorem toCs_len {H : List Ob} : ∀ {cs cs' : List C}, toCs brw sel H cs = some cs' → cs'.length = cs.length
  | [], _, hc => by simp only [toCs, Option.some.injEq] at hc; subst hc; rfl
  | c :: r, cs', hc => by
    simp only [toCs] at hc
    split at hc
    · rename_i c' r'' ho hrr
      cases hc
      simp [toCs_len hrr]
    · cases hc
theorem toH_get {H : List Ob} {sel0 : List Sel} : ∀ {ss : List Sel} {H' : List Ob}, toH brw sel0 H ss = some H' → H'.length = ss.length ∧ ∀ (i : Nat) (s : Sel), ss[i]? = some s → ∃ ob', H'[i]? = some ob' ∧
    ((∃ o cs cs', s = .whole o ∧ H[o]? = some (.box cs) ∧ toCs brw sel0 H cs = some cs' ∧ ob' = .box cs') ∨
     (∃ o, s = .whole o ∧ H[o]? = some ob' ∧ ∀ cs, ob' ≠ .box cs) ∨
     (∃ o j n cs cs', s = .win o j n ∧ H[o]? = some (.box cs) ∧ j + n ≤ cs.length ∧ toCs brw sel0 H ((cs.drop j).take n) = some cs' ∧ ob' = .box cs'))
  | [], H', h => by simp only [toH, Option.some.injEq] at h; subst h; exact ⟨rfl, fun i s hi => by simp at hi⟩
  | .whole o :: r, H', h => by
    simp only [toH] at h
    split at h
    · rename_i cs r' h1 h2
      simp only [Option.map_eq_some_iff] at h
      obtain ⟨cs', hcs, rfl⟩ := h
      obtain ⟨hl, hg⟩ := toH_get h2
      refine ⟨by simp [hl], fun i s hi => ?_⟩
      cases i with
      | zero => simp at hi; subst hi; exact ⟨_, rfl, .inl ⟨o, cs, cs', rfl, h1, hcs, rfl⟩⟩
      | succ i => simpa using hg i s (by simpa using hi)
    · rename_i ob r' hne h1 h2
      cases h
      obtain ⟨hl, hg⟩ := toH_get h2
      refine ⟨by simp [hl], fun i s hi => ?_⟩
      cases i with
      | zero => simp at hi; subst hi; exact ⟨_, rfl, .inr (.inl ⟨o, rfl, h1, fun cs hcs => hne cs hcs⟩)⟩
      | succ i => simpa using hg i s (by simpa using hi)
    · cases h
  | .win o j n :: r, H', h => by
    simp only [toH] at h
    split at h
    · rename_i cs r' h1 h2
      split at h
      · rename_i hn
        simp only [Option.map_eq_some_iff] at h
        obtain ⟨cs', hcs, rfl⟩ := h
        obtain ⟨hl, hg⟩ := toH_get h2
        refine ⟨by simp [hl], fun i s hi => ?_⟩
        cases i with
        | zero => simp at hi; subst hi; exact ⟨_, rfl, .inr (.inr ⟨o, j, n, cs, cs', rfl, h1, hn, hcs, rfl⟩)⟩
        | succ i => simpa using hg i s (by simpa using hi)
      · cases h
    · cases h
end
end Go.Proofs.YtmbbapeiikifgaaGreatDoor
