/- Other ways to tell the same state: chunks left out and numbered anew, rows given up for good (frozen), an empty slice for nil. -/
import Derived.Test.YtmbbapeiikifgaaGreatDoorSlK
namespace Go.Proofs.YtmbbapeiikifgaaGreatDoor
open Go
def renCaps (ix : Nat → Option Nat) : List (Nat × Nat) → Option (List (Nat × Nat))
  | [] => some []
  | (o, j) :: r => match ix o, renCaps ix r with | some o', some r' => some ((o', j) :: r') | _, _ => none
def renD (ix : Nat → Option Nat) : Option Nat → Option (Option Nat)
  | none => some none
  | some o => (ix o).map some
def renC (ix : Nat → Option Nat) : C → Option C
  | .ptr o j => (ix o).map fun o' => .ptr o' j
  | .ep o i t x j => (ix o).map fun o' => .ep o' i t x j
  | .vp d t x j => (renD ix d).map fun d' => .vp d' t x j
  | .sl o => (ix o).map .sl
  | .mp o => (ix o).map .mp
  | .vw d t xs => (renD ix d).map fun d' => .vw d' t xs
  | .fn f caps => (renCaps ix caps).map (.fn f)
  | c => some c
def renCs (ix : Nat → Option Nat) : List C → Option (List C)
  | [] => some []
  | c :: cs => match renC ix c, renCs ix cs with | some c', some cs' => some (c' :: cs') | _, _ => none
def renP (ix : Nat → Option Nat) : PV → Option PV
  | .c x => (renC ix x).map .c
  | .agg xs => (renCs ix xs).map .agg
def renPs (ix : Nat → Option Nat) : List PV → Option (List PV)
  | [] => some []
  | c :: cs => match renP ix c, renPs ix cs with | some c', some cs' => some (c' :: cs') | _, _ => none
def renA (ix : Nat → Option Nat) : AV → Option AV
  | .p x => (renP ix x).map .p
  | .tup xs => (renPs ix xs).map .tup
def renOb (ix : Nat → Option Nat) : Ob → Option Ob
  | .box cs => (renCs ix cs).map .box
  | o => some o
structure RenOk (ix : Nat → Option Nat) (M M' : List Pl) (Z Z' : CS) : Prop where
  m : ∀ o o' p, ix o = some o' → M[o]? = some p → ∃ p', M'[o']? = some p' ∧ p'.av = p.av ∧ p'.len = p.len ∧ p'.cap = p.cap ∧ ∀ k j, p.S k j → p'.S k j
  z : ∀ k j, Z k j → Z' k j
theorem RenOk.zone {ix : Nat → Option Nat} {M M' : List Pl} {Z Z' : CS} (h : RenOk ix M M' Z Z') {d d' : Option Nat} (hd : renD ix d = some d') : ∀ k j, zone M Z d k j → zone M' Z' d' k j := by
  intro k j hs
  cases d with
  | none => simp only [renD, Option.some.injEq] at hd; subst hd; exact h.z k j hs
  | some o =>
    simp only [renD, Option.map_eq_some_iff] at hd
    obtain ⟨o', ho, rfl⟩ := hd
    obtain ⟨p, hp, hps⟩ := hs
    obtain ⟨p', hp', _, _, _, hS⟩ := h.m o o' p ho hp
    exact ⟨p', hp', hS k j hps⟩
section
variable {ix : Nat → Option Nat} {M M' : List Pl} {Z Z' : CS} {w : World}
theorem renCaps_rel (h : RenOk ix M M' Z Z') : ∀ {cs cs' : List (Nat × Nat)} {vs : List Value}, renCaps ix cs = some cs' → CapsRel M cs vs → CapsRel M' cs' vs
  | [], _, _, hc, hr => by simp only [renCaps, Option.some.injEq] at hc; subst hc; exact hr
  | (o, j) :: r, cs', vs, hc, ⟨p, b, f, r', hv, hp, ha, hr⟩ => by
    simp only [renCaps] at hc
    split at hc
    · rename_i o' r'' ho hrr
      cases hc
      obtain ⟨p', hp', ha', _, _, _⟩ := h.m o o' p ho hp
      exact ⟨p', b, f, r', hv, hp', ha'.trans ha, renCaps_rel h hrr hr⟩
    · cases hc
theorem renC_rel (h : RenOk ix M M' Z Z') {c c' : C} {v : Value} (hc : renC ix c = some c') (hr : CRel M Z w c v) : CRel M' Z' w c' v := by
  cases c <;> simp only [renC, Option.map_eq_some_iff, Option.some.injEq] at hc
  case ptr o j =>
    obtain ⟨o', ho, rfl⟩ := hc
    obtain ⟨p, b, f, hp, ha, hv⟩ := hr
    obtain ⟨p', hp', ha', _, _, _⟩ := h.m o o' p ho hp
    exact ⟨p', b, f, hp', ha'.trans ha, hv⟩
  case ep o i t x j =>
    obtain ⟨o', ho, rfl⟩ := hc
    obtain ⟨p, b, hp, ha, hi, he, hv⟩ := hr
    obtain ⟨p', hp', ha', hl', _, hS⟩ := h.m o o' p ho hp
    exact ⟨p', b, hp', ha'.trans ha, hl' ▸ hi, he.mono hS, hv⟩
  case vp d t x j =>
    obtain ⟨d', hd, rfl⟩ := hc
    obtain ⟨b, f, he, hv⟩ := hr
    exact ⟨b, f, he.mono (h.zone hd), hv⟩
  case sl o =>
    obtain ⟨o', ho, rfl⟩ := hc
    obtain ⟨p, hp, hv⟩ := hr
    obtain ⟨p', hp', ha', hl', hc', _⟩ := h.m o o' p ho hp
    exact ⟨p', hp', by rw [ha', hl', hc']; exact hv⟩
  case vw d t xs =>
    obtain ⟨d', hd, rfl⟩ := hc
    exact SlRd.mono (h.zone hd) hr
  case mp o =>
    obtain ⟨o', ho, rfl⟩ := hc
    obtain ⟨p, b, hp, ha, hv⟩ := hr
    obtain ⟨p', hp', ha', _, _, _⟩ := h.m o o' p ho hp
    exact ⟨p', b, hp', ha'.trans ha, hv⟩
  case fn f caps =>
    obtain ⟨caps', hcs, rfl⟩ := hc
    obtain ⟨vs, hv, hcr⟩ := hr
    exact ⟨vs, hv, renCaps_rel h hcs hcr⟩
  all_goals (subst hc; exact hr)
theorem renCs_rel (h : RenOk ix M M' Z Z') : ∀ {cs cs' : List C} {vs : List Value}, renCs ix cs = some cs' → CsRel M Z w cs vs → CsRel M' Z' w cs' vs
  | [], _, _, hc, hr => by simp only [renCs, Option.some.injEq] at hc; subst hc; exact hr
  | c :: r, cs', vs, hc, ⟨v, r', hv, h1, h2⟩ => by
    simp only [renCs] at hc
    split at hc
    · rename_i c' r'' ho hrr
      cases hc
      exact ⟨v, r', hv, renC_rel h ho h1, renCs_rel h hrr h2⟩
    · cases hc
theorem renCs_len : ∀ {cs cs' : List C}, renCs ix cs = some cs' → cs'.length = cs.length
  | [], _, hc => by simp only [renCs, Option.some.injEq] at hc; subst hc; rfl
  | c :: r, cs', hc => by
    simp only [renCs] at hc
    split at hc
    · rename_i c' r'' ho hrr
      cases hc
      simp [renCs_len hrr]
    · cases hc
theorem renP_rel (h : RenOk ix M M' Z Z') {x x' : PV} {v : Value} (hc : renP ix x = some x') (hr : PRel M Z w x v) : PRel M' Z' w x' v := by
  cases x <;> simp only [renP, Option.map_eq_some_iff] at hc
  case c x => obtain ⟨x', hx, rfl⟩ := hc; exact renC_rel h hx hr
  case agg xs =>
    obtain ⟨xs', hx, rfl⟩ := hc
    obtain ⟨vs, hv, hrs⟩ := hr
    exact ⟨vs, hv, renCs_rel h hx hrs⟩
theorem renPs_rel (h : RenOk ix M M' Z Z') : ∀ {cs cs' : List PV} {vs : List Value}, renPs ix cs = some cs' → PsRel M Z w cs vs → PsRel M' Z' w cs' vs
  | [], _, _, hc, hr => by simp only [renPs, Option.some.injEq] at hc; subst hc; exact hr
  | c :: r, cs', vs, hc, ⟨v, r', hv, h1, h2⟩ => by
    simp only [renPs] at hc
    split at hc
    · rename_i c' r'' ho hrr
      cases hc
      exact ⟨v, r', hv, renP_rel h ho h1, renPs_rel h hrr h2⟩
    · cases hc
theorem renA_rel (h : RenOk ix M M' Z Z') {x x' : AV} {v : Value} (hc : renA ix x = some x') (hr : ARel M Z w x v) : ARel M' Z' w x' v := by
  cases x <;> simp only [renA, Option.map_eq_some_iff] at hc
  case p x => obtain ⟨x', hx, rfl⟩ := hc; exact renP_rel h hx hr
  case tup xs =>
    obtain ⟨xs', hx, rfl⟩ := hc
    obtain ⟨vs, hv, hrs⟩ := hr
    exact ⟨vs, hv, renPs_rel h hx hrs⟩
theorem renOb_rel (h : RenOk ix M M' Z Z') {o o' : Ob} {p : Pl} (hc : renOb ix o = some o') (hr : ObRel M Z w o p) : ObRel M' Z' w o' p := by
  cases o <;> simp only [renOb, Option.map_eq_some_iff, Option.some.injEq] at hc
  case box cs =>
    obtain ⟨cs', hcs, rfl⟩ := hc
    obtain ⟨b, f, ha, hS, hf, vs, hv, hcell⟩ := hr
    have hl := renCs_len hcs
    exact ⟨b, f, ha, fun k j => by rw [hS k j, hl], fun i hi => hf i (hl ▸ hi), vs, renCs_rel h hcs hv, hcell⟩
  all_goals (subst hc; exact hr)
end
def ixOf (sel : List Nat) (o : Nat) : Option Nat := sel.idxOf? o
def pickT (ix : Nat → Option Nat) (T : List (Nat × AV)) : List Nat → Option (List (Nat × AV))
  | [] => some []
  | d :: ds => match tget T d, pickT ix T ds with
    | some x, some r => (renA ix x).map fun y => (d, y) :: r
    | _, _ => none
def pickH (ix : Nat → Option Nat) (H : List Ob) : List Nat → Option (List Ob)
  | [] => some []
  | o :: os => match H[o]?, pickH ix H os with
    | some x, some r => (renOb ix x).map fun y => y :: r
    | _, _ => none
def pickSt (n0 : Nat) (sel keep : List Nat) (st : St) : Option St :=
  if sel.Nodup ∧ sel.take n0 = List.range n0 then
    match pickT (ixOf sel) st.T keep, pickH (ixOf sel) st.H sel with
    | some T, some H => some ⟨T, H⟩
    | _, _ => none
  else none
theorem pickT_mem {ix : Nat → Option Nat} {T : List (Nat × AV)} : ∀ {ds : List Nat} {T' : List (Nat × AV)}, pickT ix T ds = some T' → ∀ d y, (d, y) ∈ T' → ∃ x, tget T d = some x ∧ renA ix x = some y
  | [], T', h, d, y, hm => by simp only [pickT, Option.some.injEq] at h; subst h; cases hm
  | d0 :: ds, T', h, d, y, hm => by
    simp only [pickT] at h
    split at h
    · rename_i x r hx hr
      simp only [Option.map_eq_some_iff] at h
      obtain ⟨y0, hy, rfl⟩ := h
      rcases List.mem_cons.1 hm with he | hm
      · cases he; exact ⟨x, hx, hy⟩
      · exact pickT_mem hr d y hm
    · cases h
theorem pickH_get {ix : Nat → Option Nat} {H : List Ob} : ∀ {os : List Nat} {H' : List Ob}, pickH ix H os = some H' → H'.length = os.length ∧ ∀ (i : Nat) (o' : Ob), H'[i]? = some o' → ∃ o x, os[i]? = some o ∧ H[o]? = some x ∧ renOb ix x = some o'
  | [], H', h => by simp only [pickH, Option.some.injEq] at h; subst h; exact ⟨rfl, fun i o' hi => by simp at hi⟩
  | o :: os, H', h => by
    simp only [pickH] at h
    split at h
    · rename_i x r hx hr
      simp only [Option.map_eq_some_iff] at h
      obtain ⟨y, hy, rfl⟩ := h
      obtain ⟨hl, hg⟩ := pickH_get hr
      refine ⟨by simp [hl], fun i o' hi => ?_⟩
      cases i with
      | zero => simp at hi; subst hi; exact ⟨o, x, rfl, hx, hy⟩
      | succ i => simpa using hg i o' (by simpa using hi)
    · cases h
theorem Rel.pick {E : Env} {st st' : St} {M : List Pl} {Z : CS} {a : Act} {w : World} (h : Rel E st M Z a w) {sel keep : List Nat} (hp : pickSt E.n0 sel keep st = some st') : ∃ M', Rel E st' M' Z a w ∧ (∀ (i : Nat) (p : Pl), M'[i]? = some p → ∃ o, sel[i]? = some o ∧ M[o]? = some p) ∧ M'.length = sel.length ∧ sel.Nodup ∧ RenOk (ixOf sel) M M' Z Z := by
  unfold pickSt at hp
  split at hp
  · rename_i hnd0
    obtain ⟨hnd, hpre⟩ := hnd0
    split at hp
    · rename_i T H hT hH
      cases hp
      obtain ⟨hlen, hget⟩ := pickH_get hH
      let M' : List Pl := sel.map fun o => (M[o]?).getD ⟨none, 0, 0, fun _ _ => False⟩
      have hM' : ∀ (i : Nat) (p : Pl), M'[i]? = some p → ∃ o, sel[i]? = some o ∧ p = (M[o]?).getD ⟨none, 0, 0, fun _ _ => False⟩ := fun i p hi => by
        simp only [M', List.getElem?_map, Option.map_eq_some_iff] at hi
        obtain ⟨o, ho, rfl⟩ := hi
        exact ⟨o, ho, rfl⟩
      have hsome : ∀ (i o : Nat), sel[i]? = some o → ∃ p, M[o]? = some p := fun i o ho => by
        have hi : i < H.length := by rw [hlen]; exact (List.getElem?_eq_some_iff.1 ho).1
        obtain ⟨o1, x, ho1, hx, _⟩ := hget i _ (List.getElem?_eq_getElem hi)
        rw [ho] at ho1; cases ho1
        have := (List.getElem?_eq_some_iff.1 hx).1
        exact ⟨M[o]'(by rw [h.ml]; exact this), by simp [h.ml, this]⟩
      have hM2 : ∀ (i : Nat) (p : Pl), M'[i]? = some p → ∃ o, sel[i]? = some o ∧ M[o]? = some p := fun i p hi => by
        obtain ⟨o, ho, hpe⟩ := hM' i p hi
        obtain ⟨q, hq⟩ := hsome i o ho
        rw [hq] at hpe
        exact ⟨o, ho, by rw [hq, hpe]; rfl⟩
      have hren : RenOk (ixOf sel) M M' Z Z := by
        refine ⟨fun o o' p ho hpo => ⟨p, ?_, rfl, rfl, rfl, fun _ _ h => h⟩, fun _ _ h => h⟩
        have hso : sel[o']? = some o := by
          unfold ixOf at ho
          have := List.idxOf?_eq_some_iff.1 ho
          obtain ⟨hlt, he, _⟩ := this
          rw [List.getElem?_eq_getElem hlt]; exact congrArg some (by simpa using he)
        simp only [M', List.getElem?_map, hso, Option.map_some, hpo, Option.getD_some]
      refine ⟨M', ?_, hM2, by simp [M'], hnd, hren⟩
      exact
      { df := h.df, nt := h.nt
        tm := fun d y hy => by
          obtain ⟨x, hx, hxy⟩ := pickT_mem hT d y hy
          obtain ⟨v, hv, hr⟩ := h.tm d x (tget_mem hx)
          exact ⟨v, hv, renA_rel hren hxy hr⟩
        ml := by simp [M', hlen]
        ob := fun i o' p hi hpi => by
          obtain ⟨o, x, ho, hx, hxo⟩ := hget i o' hi
          obtain ⟨o1, ho1, hp1⟩ := hM2 i p hpi
          rw [ho] at ho1; cases ho1
          exact renOb_rel hren hxo (h.ob o x p hx hp1)
        dj := fun i j p q hi hj hne => by
          obtain ⟨o1, ho1, hp1⟩ := hM2 i p hi
          obtain ⟨o2, ho2, hp2⟩ := hM2 j q hj
          refine h.dj o1 o2 p q hp1 hp2 ?_
          rintro rfl
          obtain ⟨hi', e1⟩ := List.getElem?_eq_some_iff.1 ho1
          obtain ⟨hj', e2⟩ := List.getElem?_eq_some_iff.1 ho2
          rcases Nat.lt_trichotomy i j with hl | hl | hl
          · exact List.pairwise_iff_getElem.1 hnd i j hi' hj' hl (e1.trans e2.symm)
          · exact hne hl
          · exact List.pairwise_iff_getElem.1 hnd j i hj' hi' hl (e2.trans e1.symm)
        dz := fun i p hi => by obtain ⟨o1, _, hp1⟩ := hM2 i p hi; exact h.dz o1 p hp1
        lt := fun i p k j hi => by obtain ⟨o1, _, hp1⟩ := hM2 i p hi; exact h.lt o1 p k j hp1
        zl := h.zl, kp := h.kp
        os := fun i p k j hi => by obtain ⟨o1, _, hp1⟩ := hM2 i p hi; exact h.os o1 p k j hp1
        zs := h.zs
        z0 := h.z0, gl := h.gl
        g := fun i hi => by
          obtain ⟨p, p0, hp, hr⟩ := h.g i hi
          refine ⟨p, p0, ?_, hr⟩
          have hsi : sel[i]? = some i := by
            have := congrArg (fun l => l[i]?) hpre
            simpa [List.getElem?_take, hi] using this
          simp only [M', List.getElem?_map, hsi, Option.map_some, hp, Option.getD_some] }
    · cases hp
  · cases hp
theorem WA.pick {E : Env} {k : List Item} {ops : Array Oper} {n : Nat} {pr wt : List Rd} {fuel : Nat} {listed : Array Bool} {st st' : St} (sel keep : List Nat) (hp : pickSt E.n0 sel keep st = some st') (hn : sel.take n = List.range n)
    (hb : (pr.all (belowRd n) && wt.all (belowRd n)) = true) (h : WA E k ops n pr wt fuel listed st') : WA E k ops n pr wt fuel listed st := by
  simp only [Bool.and_eq_true] at hb
  intro wr X M Z a w hr hy
  obtain ⟨M', hr', hM, hlen, hnd, _⟩ := hr.pick hp
  have hsn : ∀ i, i < n → sel[i]? = some i := fun i hi => by
    have := congrArg (fun l => l[i]?) hn
    simpa [List.getElem?_take, hi] using this
  have hset : ∀ r : Rd, (∀ o, r.who = some (some o) → o < n) → ∀ k j, r.set M' Z k j → r.set M Z k j := by
    intro r hro k j hs
    have hz : ∀ o p, o < n → M'[o]? = some p → M[o]? = some p := fun o p ho hp => by
      obtain ⟨o', ho', hp'⟩ := hM o p hp
      rw [hsn o ho] at ho'; cases ho'
      exact hp'
    cases r with
    | no => exact hs
    | cells o j0 m =>
      obtain ⟨p', b, f, hp', ha, h1⟩ := hs
      exact ⟨p', b, f, hz o p' (hro o rfl) hp', ha, h1⟩
    | dep d =>
      cases d with
      | none => exact hs
      | some o => obtain ⟨p', hp', hs'⟩ := hs; exact ⟨p', hz o p' (hro o rfl) hp', hs'⟩
  refine h wr X M' Z a w hr' ⟨hy.keep, fun r hr => ?_, fun r hr k j hs => hy.wt r hr k j (hset r (below_spec hb.2 r hr) k j hs), fun o p k j ho hp hs => ?_, ?_⟩
  · exact ⟨fun k j hs => (hy.pr r hr).1 k j (hset r (below_spec hb.1 r hr) k j hs), fun k j hx hs => (hy.pr r hr).2 k j hx (hset r (below_spec hb.1 r hr) k j hs)⟩
  · obtain ⟨o', ho', hp'⟩ := hM o p hp
    refine hy.new o' p k j (Nat.le_of_not_lt fun hlt => ?_) hp' hs
    obtain ⟨h1, e1⟩ := List.getElem?_eq_some_iff.1 ho'
    obtain ⟨h2, e2⟩ := List.getElem?_eq_some_iff.1 (hsn o' hlt)
    exact List.pairwise_iff_getElem.1 hnd o' o h2 h1 (by omega) (e2.trans e1.symm)
  · rw [hlen]
    rcases Nat.eq_zero_or_pos n with h0 | h0
    · omega
    · have := (List.getElem?_eq_some_iff.1 (hsn (n - 1) (by omega))).1
      omega
end Go.Proofs.YtmbbapeiikifgaaGreatDoor
