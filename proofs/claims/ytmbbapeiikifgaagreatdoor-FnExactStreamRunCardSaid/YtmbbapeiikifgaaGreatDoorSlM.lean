/- Rows that are frozen; nil slices told as empty ones; a row of such retellings. -/
import Derived.Test.YtmbbapeiikifgaaGreatDoorSlL
namespace Go.Proofs.YtmbbapeiikifgaaGreatDoor
open Go
def fzC (o : Nat) (t : Ty) (xs : List t.T) : C → C
  | .sl o' => if o' = o then .vw none t xs else .sl o'
  | .vw (some o') t' ys => if o' = o then .vw none t' ys else .vw (some o') t' ys
  | .vp (some o') t' x j => if o' = o then .vp none t' x j else .vp (some o') t' x j
  | .ep o' i t' x j => if o' = o then .vp none t' x j else .ep o' i t' x j
  | c => c
def fzP (o : Nat) (t : Ty) (xs : List t.T) : PV → PV
  | .c x => .c (fzC o t xs x)
  | .agg cs => .agg (cs.map (fzC o t xs))
def fzA (o : Nat) (t : Ty) (xs : List t.T) : AV → AV
  | .p x => .p (fzP o t xs x)
  | .tup vs => .tup (vs.map (fzP o t xs))
def fzO (o : Nat) (t : Ty) (xs : List t.T) : Ob → Ob
  | .box cs => .box (cs.map (fzC o t xs))
  | b => b
section
variable {E : Env} {st : St} {M : List Pl} {Z : CS} {a : Act} {w : World} {o : Nat} {t : Ty} {xs : List t.T} {p : Pl}
def fzM (M : List Pl) (o : Nat) (p : Pl) : List Pl := M.set o { p with S := fun _ _ => False }
def fzZ (Z : CS) (p : Pl) : CS := fun k j => Z k j ∨ p.S k j
theorem fzM_get (hp : M[o]? = some p) (i : Nat) (q : Pl) (h : (fzM M o p)[i]? = some q) : (i = o ∧ q = { p with S := fun _ _ => False }) ∨ (i ≠ o ∧ M[i]? = some q) := by
  have hi : o < M.length := (List.getElem?_eq_some_iff.1 hp).1
  unfold fzM at h
  rw [List.getElem?_set] at h
  by_cases hio : o = i
  · subst hio; rw [if_pos rfl] at h; simp [hi] at h; exact .inl ⟨rfl, h.symm⟩
  · rw [if_neg hio] at h; exact .inr ⟨Ne.symm hio, h⟩
theorem fzM_self (hp : M[o]? = some p) : (fzM M o p)[o]? = some { p with S := fun _ _ => False } := by
  have hi : o < M.length := (List.getElem?_eq_some_iff.1 hp).1
  simp [fzM, hi]
theorem fzM_other {i : Nat} (h : i ≠ o) : (fzM M o p)[i]? = M[i]? := by
  simp only [fzM]; rw [List.getElem?_set, if_neg (Ne.symm h)]
theorem fz_zone {d : Option Nat} (h : d ≠ some o) : ∀ k j, zone M Z d k j → zone (fzM M o p) (fzZ Z p) d k j := by
  intro k j hs
  cases d with
  | none => exact .inl hs
  | some o' =>
    obtain ⟨q, hq, hqs⟩ := hs
    exact ⟨q, by rw [fzM_other (fun e => h (by rw [e]))]; exact hq, hqs⟩
theorem fz_zone_o (hp : M[o]? = some p) : ∀ k j, zone M Z (some o) k j → zone (fzM M o p) (fzZ Z p) none k j := by
  rintro k j ⟨q, hq, hs⟩
  rw [hp] at hq; cases hq
  exact .inr hs
theorem fzCaps_rel (hp : M[o]? = some p) : ∀ {cs : List (Nat × Nat)} {vs : List Value}, CapsRel M cs vs → CapsRel (fzM M o p) cs vs
  | [], _, h => h
  | (i, j) :: cs, vs, ⟨q, b, f, r, hv, hq, ha, hr⟩ => by
    by_cases hio : i = o
    · have hqp : q = p := by rw [hio, hp] at hq; cases hq; rfl
      exact ⟨_, b, f, r, hv, by rw [hio]; exact fzM_self hp, by rw [← hqp]; exact ha, fzCaps_rel hp hr⟩
    · exact ⟨q, b, f, r, hv, by rw [fzM_other hio]; exact hq, ha, fzCaps_rel hp hr⟩
theorem fzC_rel (hp : M[o]? = some p) (hrow : RowOwn w t xs p) {c : C} {v : Value} (h : CRel M Z w c v) : CRel (fzM M o p) (fzZ Z p) w (fzC o t xs c) v := by
  cases c with
  | sl o' =>
    obtain ⟨q, hq, hv⟩ := h
    simp only [fzC]
    split
    · rename_i e
      subst e
      rw [hp] at hq; cases hq
      have := hrow.rd
      rw [← hv] at this
      exact this.mono fun k j hs => Or.inr hs
    · rename_i e
      exact ⟨q, by rw [fzM_other e]; exact hq, hv⟩
  | vw d t' ys =>
    cases d with
    | none => exact SlRd.mono (fun _ _ h => Or.inl h) h
    | some o' =>
      simp only [fzC]
      split
      · rename_i e; subst e; exact SlRd.mono (fz_zone_o hp) h
      · rename_i e; exact SlRd.mono (fz_zone (fun h => e (by cases h; rfl))) h
  | vp d t' x j =>
    obtain ⟨b, f, he, hv⟩ := h
    cases d with
    | none => exact ⟨b, f, he.mono fun _ _ h => Or.inl h, hv⟩
    | some o' =>
      simp only [fzC]
      split
      · rename_i e; subst e; exact ⟨b, f, he.mono (fz_zone_o hp), hv⟩
      · rename_i e; exact ⟨b, f, he.mono (fz_zone (fun h => e (by cases h; rfl))), hv⟩
  | ep o' i t' x j =>
    obtain ⟨q, b, hq, ha, hi, he, hv⟩ := h
    simp only [fzC]
    split
    · rename_i e
      subst e
      rw [hp] at hq; cases hq
      exact ⟨b, i * t'.sz, he.mono fun _ _ h => Or.inr h, hv⟩
    · rename_i e
      exact ⟨q, b, by rw [fzM_other e]; exact hq, ha, hi, he, hv⟩
  | ptr o' j =>
    obtain ⟨q, b, f, hq, ha, hv⟩ := h
    by_cases e : o' = o
    · subst e
      rw [hp] at hq; cases hq
      exact ⟨_, b, f, fzM_self hp, ha, hv⟩
    · exact ⟨q, b, f, by rw [fzM_other e]; exact hq, ha, hv⟩
  | fn f caps =>
    obtain ⟨vs, hv, hc⟩ := h
    exact ⟨vs, hv, fzCaps_rel hp hc⟩
  | mp o' =>
    obtain ⟨q, b, hq, ha, hv⟩ := h
    by_cases e : o' = o
    · subst e
      rw [hp] at hq; cases hq
      exact ⟨_, b, fzM_self hp, ha, hv⟩
    · exact ⟨q, b, by rw [fzM_other e]; exact hq, ha, hv⟩
  | _ => exact h
theorem fzCs_rel (hp : M[o]? = some p) (hrow : RowOwn w t xs p) : ∀ {cs : List C} {vs : List Value}, CsRel M Z w cs vs → CsRel (fzM M o p) (fzZ Z p) w (cs.map (fzC o t xs)) vs
  | [], _, h => h
  | _ :: _, _, ⟨v, r, hv, h1, h2⟩ => ⟨v, r, hv, fzC_rel hp hrow h1, fzCs_rel hp hrow h2⟩
theorem fzP_rel (hp : M[o]? = some p) (hrow : RowOwn w t xs p) {x : PV} {v : Value} (h : PRel M Z w x v) : PRel (fzM M o p) (fzZ Z p) w (fzP o t xs x) v := by
  cases x with
  | c x => exact fzC_rel hp hrow h
  | agg cs => obtain ⟨vs, hv, hr⟩ := h; exact ⟨vs, hv, fzCs_rel hp hrow hr⟩
theorem fzPs_rel (hp : M[o]? = some p) (hrow : RowOwn w t xs p) : ∀ {cs : List PV} {vs : List Value}, PsRel M Z w cs vs → PsRel (fzM M o p) (fzZ Z p) w (cs.map (fzP o t xs)) vs
  | [], _, h => h
  | _ :: _, _, ⟨v, r, hv, h1, h2⟩ => ⟨v, r, hv, fzP_rel hp hrow h1, fzPs_rel hp hrow h2⟩
theorem fzA_rel (hp : M[o]? = some p) (hrow : RowOwn w t xs p) {x : AV} {v : Value} (h : ARel M Z w x v) : ARel (fzM M o p) (fzZ Z p) w (fzA o t xs x) v := by
  cases x with
  | p x => exact fzP_rel hp hrow h
  | tup vs => obtain ⟨us, hv, hr⟩ := h; exact ⟨us, hv, fzPs_rel hp hrow hr⟩
def frzSt (o : Nat) (st : St) : Option St :=
  match st.H[o]? with
  | some (.row t xs) => some ⟨st.T.map fun p => (p.1, fzA o t xs p.2), (st.H.map (fzO o t xs)).set o .dead⟩
  | _ => none
theorem Rel.frzM {st' : St} (h : Rel E st M Z a w) (hf : frzSt o st = some st') : ∃ p, M[o]? = some p ∧ Rel E st' (fzM M o p) (fzZ Z p) a w := by
  unfold frzSt at hf
  split at hf
  · rename_i t xs hH
    cases hf
    have hlt : o < st.H.length := (List.getElem?_eq_some_iff.1 hH).1
    obtain ⟨p, hp⟩ : ∃ p, M[o]? = some p := ⟨M[o]'(by rw [h.ml]; exact hlt), by simp [h.ml, hlt]⟩
    have hrow : RowOwn w t xs p := h.ob o _ p hH hp
    refine ⟨p, hp, ?_⟩
    exact
    { df := h.df, nt := h.nt
      tm := fun d y hy => by
        simp only [List.mem_map, Prod.mk.injEq, Prod.exists] at hy
        obtain ⟨d', x, hm, rfl, rfl⟩ := hy
        obtain ⟨v, hv, hr⟩ := h.tm d' x hm
        exact ⟨v, hv, fzA_rel hp hrow hr⟩
      ml := by simp [fzM, h.ml]
      ob := fun i o' q hi hq => by
        rw [List.getElem?_set] at hi
        rcases fzM_get hp i q hq with ⟨rfl, rfl⟩ | ⟨hne, hq'⟩
        · simp [hlt] at hi; subst hi; exact fun _ _ h => h
        · rw [if_neg (Ne.symm hne)] at hi
          simp only [List.getElem?_map, Option.map_eq_some_iff] at hi
          obtain ⟨x, hx, rfl⟩ := hi
          have hob := h.ob i x q hx hq'
          cases x with
          | box cs =>
            obtain ⟨b, f, ha, hS, hfz, vs, hv, hcell⟩ := hob
            exact ⟨b, f, ha, fun k j => by rw [hS k j]; simp, fun i hi => hfz i (by simpa using hi), vs, fzCs_rel hp hrow hv, hcell⟩
          | row t' ys => exact hob
          | mp t' es pd => exact hob
          | dead => exact hob
      dj := fun i j q r hi hj hne k x h1 h2 => by
        rcases fzM_get hp i q hi with ⟨rfl, rfl⟩ | ⟨_, hq⟩
        · exact h1
        · rcases fzM_get hp j r hj with ⟨rfl, rfl⟩ | ⟨_, hr⟩
          · exact h2
          · exact h.dj i j q r hq hr hne k x h1 h2
      dz := fun i q hi k x h1 h2 => by
        rcases fzM_get hp i q hi with ⟨rfl, rfl⟩ | ⟨hne, hq⟩
        · exact h1
        · rcases h2 with h2 | h2
          · exact h.dz i q hq k x h1 h2
          · exact h.dj i o q p hq hp hne k x h1 h2
      lt := fun i q k x hi h1 => by
        rcases fzM_get hp i q hi with ⟨rfl, rfl⟩ | ⟨hne, hq⟩
        · exact h1.elim
        · exact h.lt i q k x hq h1
      zl := fun k x hz => hz.elim (h.zl k x) (h.lt o p k x hp)
      kp := h.kp
      os := fun i q k x hi h1 => by
        rcases fzM_get hp i q hi with ⟨rfl, rfl⟩ | ⟨hne, hq⟩
        · exact h1.elim
        · exact h.os i q k x hq h1
      zs := fun k x hz => hz.elim (h.zs k x) fun hs => .inr (h.os o p k x hp hs)
      z0 := fun k x hz => .inl (h.z0 k x hz)
      gl := h.gl.keep (Keep.refl _ (fun _ _ => False)) (fun _ _ h => h.elim) fun _ _ hz => .inl hz
      g := fun i hi => by
        obtain ⟨q, p0, hq, hp0, hr⟩ := h.g i hi
        by_cases hio : i = o
        · subst hio
          rw [hp] at hq; cases hq
          exact ⟨_, p0, fzM_self hp, hp0, hr⟩
        · exact ⟨q, p0, by rw [fzM_other hio]; exact hq, hp0, hr⟩ }
  · cases hf
theorem Rel.frz {st' : St} (h : Rel E st M Z a w) (hf : frzSt o st = some st') : ∃ M' Z', Rel E st' M' Z' a w :=
  let ⟨p, _, h'⟩ := h.frzM hf
  ⟨fzM M o p, fzZ Z p, h'⟩
def nvC (t : Ty) : C → Option C
  | .nilsl => some (.vw none t [])
  | _ => none
def nrC (n : Nat) : C → Option C
  | .nilsl => some (.sl n)
  | _ => none
def modL (g : C → Option C) : List C → Nat → Option (List C)
  | [], _ => none
  | c :: cs, 0 => (g c).map fun c' => c' :: cs
  | c :: cs, i + 1 => (modL g cs i).map fun cs' => c :: cs'
def modA (g : C → Option C) (i : Nat) : AV → Option AV
  | .p (.c x) => if i = 0 then (g x).map fun y => .p (.c y) else none
  | .p (.agg xs) => (modL g xs i).map fun ys => .p (.agg ys)
  | .tup _ => none
theorem modL_rel {g : C → Option C} (hg : ∀ c c' v, g c = some c' → CRel M Z w c v → CRel M Z w c' v) : ∀ {cs cs' : List C} {i : Nat} {vs : List Value}, modL g cs i = some cs' → CsRel M Z w cs vs → CsRel M Z w cs' vs
  | [], _, _, _, h, _ => by simp [modL] at h
  | c :: cs, cs', 0, vs, h, ⟨v, r, hv, h1, h2⟩ => by
    simp only [modL, Option.map_eq_some_iff] at h
    obtain ⟨c', hc, rfl⟩ := h
    exact ⟨v, r, hv, hg c c' v hc h1, h2⟩
  | c :: cs, cs', i + 1, vs, h, ⟨v, r, hv, h1, h2⟩ => by
    simp only [modL, Option.map_eq_some_iff] at h
    obtain ⟨cs1, hc, rfl⟩ := h
    exact ⟨v, r, hv, h1, modL_rel hg hc h2⟩
theorem modL_len {g : C → Option C} : ∀ {cs cs' : List C} {i : Nat}, modL g cs i = some cs' → cs'.length = cs.length
  | [], _, _, h => by simp [modL] at h
  | c :: cs, cs', 0, h => by
    simp only [modL, Option.map_eq_some_iff] at h
    obtain ⟨c', hc, rfl⟩ := h
    rfl
  | c :: cs, cs', i + 1, h => by
    simp only [modL, Option.map_eq_some_iff] at h
    obtain ⟨cs1, hc, rfl⟩ := h
    simp [modL_len hc]
theorem modA_rel {g : C → Option C} (hg : ∀ c c' v, g c = some c' → CRel M Z w c v → CRel M Z w c' v) {x x' : AV} {i : Nat} {v : Value} (h : modA g i x = some x') (hr : ARel M Z w x v) : ARel M Z w x' v := by
  unfold modA at h
  split at h
  · split at h
    · simp only [Option.map_eq_some_iff] at h
      obtain ⟨y, hy, rfl⟩ := h
      exact hg _ y v hy hr
    · cases h
  · simp only [Option.map_eq_some_iff] at h
    obtain ⟨ys, hy, rfl⟩ := h
    obtain ⟨vs, hv, hrs⟩ := hr
    exact ⟨vs, hv, modL_rel hg hy hrs⟩
  · cases h
theorem nvC_rel {t : Ty} (c c' : C) (v : Value) (h : nvC t c = some c') (hr : CRel M Z w c v) : CRel M Z w c' v := by
  unfold nvC at h
  split at h
  · cases h; exact ⟨none, 0, hr, Nat.le_refl _, .inl rfl⟩
  · cases h
def nilPl : Pl := ⟨none, 0, 0, fun _ _ => False⟩
theorem nrC_rel (c c' : C) (v : Value) (h : nrC M.length c = some c') (hr : CRel (M ++ [nilPl]) Z w c v) : CRel (M ++ [nilPl]) Z w c' v := by
  unfold nrC at h
  split at h
  · cases h; exact ⟨nilPl, by simp, hr⟩
  · cases h
theorem Rel.nilrow (h : Rel E st M Z a w) (t : Ty) : Rel E ⟨st.T, st.H ++ [.row t []]⟩ (M ++ [nilPl]) Z a w :=
  h.new (Keep.refl w _) (p := nilPl) (fun _ _ h => h.elim) ⟨rfl, .inl ⟨rfl, rfl, rfl, fun _ _ h => h⟩⟩
def setT (g : C → Option C) (d i : Nat) (T : List (Nat × AV)) : Option (List (Nat × AV)) :=
  match tget T d with
  | some x => (modA g i x).map fun y => tput T d y
  | none => none
theorem setT_rel {g : C → Option C} (hg : ∀ c c' v, g c = some c' → CRel M Z w c v → CRel M Z w c' v) (h : Rel E st M Z a w) {d i : Nat} {T' : List (Nat × AV)} (ht : setT g d i st.T = some T') : Rel E ⟨T', st.H⟩ M Z a w := by
  unfold setT at ht
  split at ht
  · rename_i x hx
    simp only [Option.map_eq_some_iff] at ht
    obtain ⟨y, hy, rfl⟩ := ht
    exact { h with
      df := h.df
      tm := fun d' z hz => by
        simp only [tput, List.mem_cons, Prod.mk.injEq, List.mem_filter, bne_iff_ne] at hz
        rcases hz with ⟨rfl, rfl⟩ | ⟨hz, _⟩
        · obtain ⟨v, hv, hr⟩ := h.tm d' x (tget_mem hx)
          exact ⟨v, hv, modA_rel hg hy hr⟩
        · exact h.tm d' z hz }
  · cases ht
def setB (g : C → Option C) (o i : Nat) (H : List Ob) : Option (List Ob) :=
  match H[o]? with
  | some (.box cs) => (modL g cs i).map fun cs' => H.set o (.box cs')
  | _ => none
theorem setB_rel {g : C → Option C} (hg : ∀ c c' v, g c = some c' → CRel M Z w c v → CRel M Z w c' v) (h : Rel E st M Z a w) {o i : Nat} {H' : List Ob} (ht : setB g o i st.H = some H') : Rel E ⟨st.T, H'⟩ M Z a w := by
  unfold setB at ht
  split at ht
  · rename_i cs hx
    simp only [Option.map_eq_some_iff] at ht
    obtain ⟨cs', hy, rfl⟩ := ht
    exact { h with
      df := h.df
      ml := by simp [h.ml]
      ob := fun j o' q hj hq => by
        rw [List.getElem?_set] at hj
        split at hj
        · rename_i e
          subst e
          split at hj
          · cases hj
            obtain ⟨b, f, ha, hS, hfz, vs, hv, hcell⟩ := h.ob o _ q hx hq
            have hl := modL_len hy
            exact ⟨b, f, ha, fun k j => by rw [hS k j, hl], fun i hi => hfz i (hl ▸ hi), vs, modL_rel hg hy hv, hcell⟩
          · cases hj
        · exact h.ob j o' q hj hq }
  · cases ht
def mvIx (o n : Nat) (x : Nat) : Option Nat := some (if x = o then n else x)
def renT (ix : Nat → Option Nat) : List (Nat × AV) → Option (List (Nat × AV))
  | [] => some []
  | (d, x) :: r => match renA ix x, renT ix r with | some y, some r' => some ((d, y) :: r') | _, _ => none
def renH (ix : Nat → Option Nat) : List Ob → Option (List Ob)
  | [] => some []
  | x :: r => match renOb ix x, renH ix r with | some y, some r' => some (y :: r') | _, _ => none
def mvSt (o : Nat) (st : St) : Option St :=
  match st.H[o]? with
  | some (.row t xs) => match renT (mvIx o st.H.length) st.T, renH (mvIx o st.H.length) st.H with
    | some T, some H => some ⟨T, H.set o .dead ++ [.row t xs]⟩
    | _, _ => none
  | _ => none
theorem renT_mem {ix : Nat → Option Nat} : ∀ {T T' : List (Nat × AV)}, renT ix T = some T' → ∀ d y, (d, y) ∈ T' → ∃ x, (d, x) ∈ T ∧ renA ix x = some y
  | [], T', h, d, y, hm => by simp only [renT, Option.some.injEq] at h; subst h; cases hm
  | (d0, x0) :: r, T', h, d, y, hm => by
    simp only [renT] at h
    split at h
    · rename_i y0 r' h1 h2
      cases h
      rcases List.mem_cons.1 hm with he | hm
      · cases he; exact ⟨x0, List.mem_cons_self, h1⟩
      · obtain ⟨x, hx, hy⟩ := renT_mem h2 d y hm
        exact ⟨x, List.mem_cons_of_mem _ hx, hy⟩
    · cases h
theorem renH_get {ix : Nat → Option Nat} : ∀ {H H' : List Ob}, renH ix H = some H' → H'.length = H.length ∧ ∀ (i : Nat) (y : Ob), H'[i]? = some y → ∃ x, H[i]? = some x ∧ renOb ix x = some y
  | [], H', h => by simp only [renH, Option.some.injEq] at h; subst h; exact ⟨rfl, fun i y hi => by simp at hi⟩
  | x :: r, H', h => by
    simp only [renH] at h
    split at h
    · rename_i y r' h1 h2
      cases h
      obtain ⟨hl, hg⟩ := renH_get h2
      refine ⟨by simp [hl], fun i z hi => ?_⟩
      cases i with
      | zero => simp at hi; subst hi; exact ⟨x, rfl, h1⟩
      | succ i => simpa using hg i z (by simpa using hi)
    · cases h
theorem Rel.mv {st' : St} (h : Rel E st M Z a w) {o : Nat} (hf : mvSt o st = some st') : ∃ M' Z', Rel E st' M' Z' a w := by
  unfold mvSt at hf
  split at hf
  · rename_i t xs hH
    split at hf
    · rename_i T H hT hHr
      cases hf
      obtain ⟨hlen, hget⟩ := renH_get hHr
      have hlt : o < st.H.length := (List.getElem?_eq_some_iff.1 hH).1
      have hltM : o < M.length := by rw [h.ml]; exact hlt
      obtain ⟨p, hp⟩ : ∃ p, M[o]? = some p := ⟨M[o]'hltM, by simp [hltM]⟩
      have hrow : RowOwn w t xs p := h.ob o _ p hH hp
      have hcase : ∀ (i : Nat) (q : Pl), (fzM M o p ++ [p])[i]? = some q → (i = o ∧ q = { p with S := fun _ _ => False }) ∨ (i ≠ o ∧ i < M.length ∧ M[i]? = some q) ∨ (i = M.length ∧ q = p) := fun i q hi => by
        rcases getElem?_lastP _ _ _ _ hi with ⟨hl, hi⟩ | ⟨hl, rfl⟩
        · have hl' : i < M.length := by simpa [fzM] using hl
          rcases fzM_get hp i q hi with h1 | ⟨h1, h2⟩
          · exact .inl h1
          · exact .inr (.inl ⟨h1, hl', h2⟩)
        · exact .inr (.inr ⟨by simpa [fzM] using hl, rfl⟩)
      have hren : RenOk (mvIx o st.H.length) M (fzM M o p ++ [p]) Z Z := by
        refine ⟨fun x x' q hx hq => ?_, fun _ _ h => h⟩
        simp only [mvIx, Option.some.injEq] at hx
        split at hx
        · rename_i e
          subst e; subst hx
          rw [hp] at hq; cases hq
          exact ⟨p, by rw [← h.ml]; simp [fzM], rfl, rfl, rfl, fun _ _ h => h⟩
        · rename_i e
          subst hx
          refine ⟨q, ?_, rfl, rfl, rfl, fun _ _ h => h⟩
          have hxl := (List.getElem?_eq_some_iff.1 hq).1
          rw [List.getElem?_append_left (by simpa [fzM] using hxl), fzM_other e]
          exact hq
      refine ⟨fzM M o p ++ [p], Z, ?_⟩
      exact
      { df := h.df, nt := h.nt
        tm := fun d y hy => by
          obtain ⟨x, hx, hxy⟩ := renT_mem hT d y hy
          obtain ⟨v, hv, hr⟩ := h.tm d x hx
          exact ⟨v, hv, renA_rel hren hxy hr⟩
        ml := by simp [fzM, hlen, h.ml]
        ob := fun i ob q hi hq => by
          rcases hcase i q hq with ⟨rfl, rfl⟩ | ⟨hne, hl, hq0⟩ | ⟨rfl, rfl⟩
          · rw [List.getElem?_append_left (by simp; omega), List.getElem?_set] at hi
            simp [hlen, hlt] at hi
            subst hi; exact fun _ _ h => h
          · rw [List.getElem?_append_left (by simp; rw [hlen, ← h.ml]; exact hl), List.getElem?_set, if_neg (Ne.symm hne)] at hi
            obtain ⟨x, hx, hxo⟩ := hget i ob hi
            exact renOb_rel hren hxo (h.ob i x q hx hq0)
          · rw [h.ml, show st.H.length = (H.set o .dead).length from by simp [hlen]] at hi
            simp at hi
            subst hi; exact hrow
        dj := fun i j q r hi hj hne k x h1 h2 => by
          rcases hcase i q hi with ⟨rfl, rfl⟩ | ⟨hn, hl, hq0⟩ | ⟨rfl, rfl⟩
          · exact h1
          · rcases hcase j r hj with ⟨rfl, rfl⟩ | ⟨hn', hl', hr0⟩ | ⟨rfl, rfl⟩
            · exact h2
            · exact h.dj i j q r hq0 hr0 hne k x h1 h2
            · exact h.dj i o q r hq0 hp hn k x h1 h2
          · rcases hcase j r hj with ⟨rfl, rfl⟩ | ⟨hn', hl', hr0⟩ | ⟨rfl, rfl⟩
            · exact h2
            · exact h.dj o j q r hp hr0 (Ne.symm hn') k x h1 h2
            · exact hne rfl
        dz := fun i q hi => by
          rcases hcase i q hi with ⟨rfl, rfl⟩ | ⟨hn, hl, hq0⟩ | ⟨rfl, rfl⟩
          · exact fun _ _ h => h.elim
          · exact h.dz i q hq0
          · exact h.dz o q hp
        lt := fun i q k x hi h1 => by
          rcases hcase i q hi with ⟨rfl, rfl⟩ | ⟨hn, hl, hq0⟩ | ⟨rfl, rfl⟩
          · exact h1.elim
          · exact h.lt i q k x hq0 h1
          · exact h.lt o q k x hp h1
        zl := h.zl, kp := h.kp
        os := fun i q k x hi h1 => by
          rcases hcase i q hi with ⟨rfl, rfl⟩ | ⟨hn, hl, hq0⟩ | ⟨rfl, rfl⟩
          · exact h1.elim
          · exact h.os i q k x hq0 h1
          · exact h.os o q k x hp h1
        zs := h.zs, z0 := h.z0, gl := h.gl
        g := fun i hi => by
          obtain ⟨q, p0, hq, hp0, hr⟩ := h.g i hi
          have hil := (List.getElem?_eq_some_iff.1 hq).1
          by_cases hio : i = o
          · subst hio
            rw [hp] at hq; cases hq
            exact ⟨{ p with S := fun _ _ => False }, p0, by rw [List.getElem?_append_left (by simpa [fzM] using hil)]; exact fzM_self hp, hp0, hr⟩
          · exact ⟨q, p0, by rw [List.getElem?_append_left (by simpa [fzM] using hil), fzM_other hio]; exact hq, hp0, hr⟩ }
    · cases hf
  · cases hf
inductive Sop where
  | frz (o : Nat) | nv (d i : Nat) (t : Ty) | nr (d i : Nat) (t : Ty) | nvb (o i : Nat) (t : Ty) | nrb (o i : Nat) (t : Ty) | pick (sel keep : List Nat) | mv (o : Nat)
def sop (n0 : Nat) (st : St) : Sop → Option St
  | .frz o => frzSt o st
  | .nv d i t => (setT (nvC t) d i st.T).map fun T => ⟨T, st.H⟩
  | .nr d i t => (setT (nrC st.H.length) d i st.T).map fun T => ⟨T, st.H ++ [.row t []]⟩
  | .nvb o i t => (setB (nvC t) o i st.H).map fun H => ⟨st.T, H⟩
  | .nrb o i t => (setB (nrC st.H.length) o i (st.H ++ [.row t []])).map fun H => ⟨st.T, H⟩
  | .pick sel keep => pickSt n0 sel keep st
  | .mv o => mvSt o st
theorem sop_ok {st' : St} (h : Rel E st M Z a w) {s : Sop} (hs : sop E.n0 st s = some st') : ∃ M' Z', Rel E st' M' Z' a w := by
  cases s with
  | frz o => exact h.frz hs
  | nv d i t =>
    simp only [sop, Option.map_eq_some_iff] at hs
    obtain ⟨T, hT, rfl⟩ := hs
    exact ⟨M, Z, setT_rel (nvC_rel (t := t)) h hT⟩
  | nr d i t =>
    simp only [sop, Option.map_eq_some_iff] at hs
    obtain ⟨T, hT, rfl⟩ := hs
    have h2 := h.nilrow t
    exact ⟨M ++ [nilPl], Z, setT_rel (fun c c' v hc hr => nrC_rel c c' v (by rw [h.ml]; exact hc) hr) h2 hT⟩
  | nvb o i t =>
    simp only [sop, Option.map_eq_some_iff] at hs
    obtain ⟨H, hH, rfl⟩ := hs
    exact ⟨M, Z, setB_rel (nvC_rel (t := t)) h hH⟩
  | nrb o i t =>
    simp only [sop, Option.map_eq_some_iff] at hs
    obtain ⟨H, hH, rfl⟩ := hs
    exact ⟨M ++ [nilPl], Z, setB_rel (fun c c' v hc hr => nrC_rel c c' v (by rw [h.ml]; exact hc) hr) (h.nilrow t) hH⟩
  | mv o => exact h.mv hs
  | pick sel keep =>
    obtain ⟨M', hM, _⟩ := h.pick hs
    exact ⟨M', Z, hM⟩
def retell (n0 : Nat) : List Sop → St → Option St
  | [], st => some st
  | s :: ss, st => match sop n0 st s with | some st' => retell n0 ss st' | none => none
theorem sops_ok : ∀ {ss : List Sop} {st st' : St} {M : List Pl} {Z : CS}, Rel E st M Z a w → retell E.n0 ss st = some st' → ∃ M' Z', Rel E st' M' Z' a w
  | [], _, _, M, Z, h, hs => by simp only [retell, Option.some.injEq] at hs; subst hs; exact ⟨M, Z, h⟩
  | s :: ss, _, _, _, _, h, hs => by
    simp only [retell] at hs
    split at hs
    · rename_i st1 h1
      obtain ⟨M', Z', h'⟩ := sop_ok h h1
      exact sops_ok h' hs
    · cases hs
theorem WT.sops {k : List Item} {st st' : St} (ss : List Sop) (h : retell E.n0 ss st = some st') (hw : WT E k st') : WT E k st :=
  .weak (fun _ _ _ _ hr => sops_ok hr h) hw
end
end Go.Proofs.YtmbbapeiikifgaaGreatDoor
