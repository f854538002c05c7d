/- Retellings in the midst of a region that draws its order. -/
import Derived.Test.YtmbbapeiikifgaaGreatDoorSlS
namespace Go.Proofs.YtmbbapeiikifgaaGreatDoor
open Go
inductive SopA where
  | frz (o : Nat) | nv (d i : Nat) (t : Ty) | nr (d i : Nat) (t : Ty) | nvb (o i : Nat) (t : Ty) | nrb (o i : Nat) (t : Ty) | keep (ds : List Nat)
def SopA.calm : SopA → Bool
  | .frz _ => false
  | _ => true
def sopA (n : Nat) (st : St) : SopA → Option St
  | .frz o => if n ≤ o then frzSt o st else none
  | .nv d i t => sop 0 st (.nv d i t)
  | .nr d i t => sop 0 st (.nr d i t)
  | .nvb o i t => sop 0 st (.nvb o i t)
  | .nrb o i t => sop 0 st (.nrb o i t)
  | .keep ds => some ⟨st.T.filter fun p => ds.contains p.1, st.H⟩
def retellA (n : Nat) : List SopA → St → Option St
  | [], st => some st
  | s :: ss, st => match sopA n st s with | some st' => retellA n ss st' | none => none
section
variable {E : Env} {st st' : St} {M : List Pl} {Z : CS} {a : Act} {w wr : World} {X : CS} {n : Nat} {pr wt : List Rd}
theorem Hy.app (hy : Hy wr X n pr wt M Z w) (hb : (pr.all (belowRd n) && wt.all (belowRd n)) = true) : Hy wr X n pr wt (M ++ [nilPl]) Z w := by
  simp only [Bool.and_eq_true] at hb
  have hset : ∀ r : Rd, belowRd n r = true → ∀ k j, r.set (M ++ [nilPl]) Z k j → r.set M Z k j := by
    intro r hr k j h
    cases r with
    | no => exact h
    | cells o j0 m =>
      have ho : o < n := by simpa [belowRd, Rd.who] using hr
      obtain ⟨p, b, f, hp, hh⟩ := h
      rw [List.getElem?_append_left (Nat.lt_of_lt_of_le ho hy.len)] at hp
      exact ⟨p, b, f, hp, hh⟩
    | dep d =>
      cases d with
      | none => exact h
      | some o =>
        have ho : o < n := by simpa [belowRd, Rd.who] using hr
        obtain ⟨p, hp, hh⟩ := h
        rw [List.getElem?_append_left (Nat.lt_of_lt_of_le ho hy.len)] at hp
        exact ⟨p, hp, hh⟩
  have hp : ∀ r, r ∈ pr → belowRd n r = true := fun r hr => List.all_eq_true.1 hb.1 r hr
  have hw : ∀ r, r ∈ wt → belowRd n r = true := fun r hr => List.all_eq_true.1 hb.2 r hr
  refine ⟨hy.keep, fun r hr => ⟨fun k j h => (hy.pr r hr).1 k j (hset r (hp r hr) k j h), fun k j hx h => (hy.pr r hr).2 k j hx (hset r (hp r hr) k j h)⟩, fun r hr k j h => hy.wt r hr k j (hset r (hw r hr) k j h), fun o p k j ho hM hS => ?_, by simp; have := hy.len; omega⟩
  rw [List.getElem?_append] at hM
  split at hM
  · exact hy.new o p k j ho hM hS
  · rename_i hlt
    have : o - M.length = 0 := by
      rcases Nat.eq_zero_or_pos (o - M.length) with h | h
      · exact h
      · rw [List.getElem?_eq_none (by simp; omega)] at hM; cases hM
    rw [this] at hM; simp at hM; subst hM
    exact hS.elim
theorem Hy.frz (hy : Hy wr X n pr wt M Z w) (hb : (pr.all (belowRd n) && wt.all (belowRd n)) = true) (hz : (pr.all notZone && wt.all notZone) = true) {o : Nat} {p : Pl} (hp : M[o]? = some p) (ho : n ≤ o) : Hy wr X n pr wt (fzM M o p) (fzZ Z p) w := by
  simp only [Bool.and_eq_true] at hb hz
  have hset : ∀ r : Rd, belowRd n r = true → notZone r = true → ∀ k j, r.set (fzM M o p) (fzZ Z p) k j → r.set M Z k j := by
    intro r hr hnz k j h
    cases r with
    | no => exact h
    | cells o' j0 m =>
      have ho' : o' < n := by simpa [belowRd, Rd.who] using hr
      obtain ⟨q, b, f, hq, hh⟩ := h
      rw [fzM_other (by omega)] at hq
      exact ⟨q, b, f, hq, hh⟩
    | dep d =>
      cases d with
      | none => simp [notZone] at hnz
      | some o' =>
        have ho' : o' < n := by simpa [belowRd, Rd.who] using hr
        obtain ⟨q, hq, hh⟩ := h
        rw [fzM_other (by omega)] at hq
        exact ⟨q, hq, hh⟩
  have hp1 : ∀ r, r ∈ pr → belowRd n r = true := fun r hr => List.all_eq_true.1 hb.1 r hr
  have hw1 : ∀ r, r ∈ wt → belowRd n r = true := fun r hr => List.all_eq_true.1 hb.2 r hr
  have hp2 : ∀ r, r ∈ pr → notZone r = true := fun r hr => List.all_eq_true.1 hz.1 r hr
  have hw2 : ∀ r, r ∈ wt → notZone r = true := fun r hr => List.all_eq_true.1 hz.2 r hr
  refine ⟨hy.keep, fun r hr => ⟨fun k j h => (hy.pr r hr).1 k j (hset r (hp1 r hr) (hp2 r hr) k j h), fun k j hx h => (hy.pr r hr).2 k j hx (hset r (hp1 r hr) (hp2 r hr) k j h)⟩, fun r hr k j h => hy.wt r hr k j (hset r (hw1 r hr) (hw2 r hr) k j h), fun o' q k j ho' hM hS => ?_, by simp only [fzM, List.length_set]; exact hy.len⟩
  rcases fzM_get hp o' q hM with ⟨rfl, rfl⟩ | ⟨_, hq⟩
  · exact hS.elim
  · exact hy.new o' q k j ho' hq hS
theorem Rel.keepT (h : Rel E st M Z a w) (f : Nat × AV → Bool) : Rel E ⟨st.T.filter f, st.H⟩ M Z a w :=
  { df := h.df, nt := h.nt, tm := fun d x hx => h.tm d x (List.mem_filter.1 hx).1, ml := h.ml, ob := h.ob, dj := h.dj, dz := h.dz, lt := h.lt, zl := h.zl, kp := h.kp, os := h.os, zs := h.zs, z0 := h.z0, gl := h.gl, g := h.g }
theorem sopA_ok (h : Rel E st M Z a w) (hy : Hy wr X n pr wt M Z w) (hb : (pr.all (belowRd n) && wt.all (belowRd n)) = true) {s : SopA} (hz : (s.calm || (pr.all notZone && wt.all notZone)) = true) (hs : sopA n st s = some st') :
    ∃ M' Z', Rel E st' M' Z' a w ∧ Hy wr X n pr wt M' Z' w := by
  cases s with
  | frz o =>
    simp only [sopA] at hs
    split at hs
    · rename_i ho
      obtain ⟨p, hp, hr⟩ := h.frzM hs
      exact ⟨_, _, hr, hy.frz hb (by simpa [SopA.calm] using hz) hp ho⟩
    · cases hs
  | nv d i t =>
    simp only [sopA, sop, Option.map_eq_some_iff] at hs
    obtain ⟨T, hT, rfl⟩ := hs
    exact ⟨M, Z, setT_rel (nvC_rel (t := t)) h hT, hy⟩
  | nr d i t =>
    simp only [sopA, sop, Option.map_eq_some_iff] at hs
    obtain ⟨T, hT, rfl⟩ := hs
    have h2 := h.nilrow t
    exact ⟨M ++ [nilPl], Z, setT_rel (fun c c' v hc hr => nrC_rel c c' v (by rw [h.ml]; exact hc) hr) h2 hT, hy.app hb⟩
  | nvb o i t =>
    simp only [sopA, sop, Option.map_eq_some_iff] at hs
    obtain ⟨H, hH, rfl⟩ := hs
    exact ⟨M, Z, setB_rel (nvC_rel (t := t)) h hH, hy⟩
  | nrb o i t =>
    simp only [sopA, sop, Option.map_eq_some_iff] at hs
    obtain ⟨H, hH, rfl⟩ := hs
    exact ⟨M ++ [nilPl], Z, setB_rel (fun c c' v hc hr => nrC_rel c c' v (by rw [h.ml]; exact hc) hr) (h.nilrow t) hH, hy.app hb⟩
  | keep ds =>
    simp only [sopA, Option.some.injEq] at hs
    subst hs
    exact ⟨M, Z, h.keepT _, hy⟩
theorem sopsA_ok (hb : (pr.all (belowRd n) && wt.all (belowRd n)) = true) : ∀ {ss : List SopA} {st st' : St} {M : List Pl} {Z : CS}, (ss.all SopA.calm || (pr.all notZone && wt.all notZone)) = true → Rel E st M Z a w → Hy wr X n pr wt M Z w → retellA n ss st = some st' →
    ∃ M' Z', Rel E st' M' Z' a w ∧ Hy wr X n pr wt M' Z' w
  | [], _, _, M, Z, _, h, hy, hs => by simp only [retellA, Option.some.injEq] at hs; subst hs; exact ⟨M, Z, h, hy⟩
  | s :: ss, _, _, _, _, hz, h, hy, hs => by
    simp only [retellA] at hs
    simp only [List.all_cons, Bool.or_eq_true, Bool.and_eq_true] at hz
    split at hs
    · rename_i st1 h1
      obtain ⟨M', Z', h', hy'⟩ := sopA_ok h hy hb (by simp only [Bool.or_eq_true, Bool.and_eq_true]; exact hz.imp (·.1) id) h1
      exact sopsA_ok hb (by simp only [Bool.or_eq_true, Bool.and_eq_true]; exact hz.imp (·.2) id) h' hy' hs
    · cases hs
end
section
variable {E : Env} {k : List Item} {ops : Array Oper} {n : Nat} {pr wt : List Rd} {fuel : Nat} {listed : Array Bool} {st : St}
theorem WA.sops (ss : List SopA) (st' : St) (hb : (pr.all (belowRd n) && wt.all (belowRd n)) = true) (hz : (ss.all SopA.calm || (pr.all notZone && wt.all notZone)) = true) (h : retellA n ss st = some st') (hw : WA E k ops n pr wt fuel listed st') : WA E k ops n pr wt fuel listed st := by
  intro wr X M Z a w hr hy
  obtain ⟨M', Z', hr', hy'⟩ := sopsA_ok hb hz hr hy h
  exact hw wr X M' Z' a w hr' hy'
theorem WO.sops {i : Nat} (ss : List SopA) (st' : St) (hb : (pr.all (belowRd n) && wt.all (belowRd n)) = true) (hz : (ss.all SopA.calm || (pr.all notZone && wt.all notZone)) = true) (h : retellA n ss st = some st') (hw : WO E k ops n pr wt fuel listed st' i) : WO E k ops n pr wt fuel listed st i := by
  intro wr X M Z a w hr hy
  obtain ⟨M', Z', hr', hy'⟩ := sopsA_ok hb hz hr hy h
  exact hw wr X M' Z' a w hr' hy'
theorem WA.less {pr' : List Rd} (hs : (pr'.all fun r => decide (r ∈ pr)) = true) (hw : WA E k ops n pr' wt fuel listed st) : WA E k ops n pr wt fuel listed st := by
  intro wr X M Z a w hr hy
  have hs' : ∀ r, r ∈ pr' → r ∈ pr := fun r h => by simpa using List.all_eq_true.1 hs r h
  exact hw wr X M Z a w hr ⟨hy.keep, fun r h => hy.pr r (hs' r h), hy.wt, hy.new, hy.len⟩
end
end Go.Proofs.YtmbbapeiikifgaaGreatDoor
