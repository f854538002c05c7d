/- A call: what comes back. -/
import Derived.Test.YtmbbapeiikifgaaGreatDoorSlO
namespace Go.Proofs.YtmbbapeiikifgaaGreatDoor
open Go
def bix (sel : List Sel) (base i : Nat) : Option (Nat × Nat) :=
  match sel[i]? with
  | some (.whole o) => some (o, 0)
  | some (.win o j _) => some (o, j)
  | none => some (base + (i - sel.length), 0)
def bixW (sel : List Sel) (base i : Nat) : Option Nat :=
  match sel[i]? with
  | some (.whole o) => some o
  | some (.win _ _ _) => none
  | none => some (base + (i - sel.length))
def bcCaps (sel : List Sel) (base : Nat) : List (Nat × Nat) → Option (List (Nat × Nat))
  | [] => some []
  | (o, j) :: r => match bix sel base o, bcCaps sel base r with | some q, some r' => some ((q.1, q.2 + j) :: r') | _, _ => none
def bcC (brw : Bool) (sel : List Sel) (base : Nat) : C → Option C
  | .ptr o j => (bix sel base o).map fun q => .ptr q.1 (q.2 + j)
  | .ep o i t x j => (bixW sel base o).map fun o' => .ep o' i t x j
  | .vp none t x j => if brw then none else some (.vp none t x j)
  | .vp (some o) t x j => (bixW sel base o).map fun o' => .vp (some o') t x j
  | .sl o => (bixW sel base o).map .sl
  | .vw none t xs => if brw then none else some (.vw none t xs)
  | .vw (some o) t xs => (bixW sel base o).map fun o' => .vw (some o') t xs
  | .fn f caps => (bcCaps sel base caps).map (.fn f)
  | .mp o => (bixW sel base o).map .mp
  | c => some c
def bcCs (brw : Bool) (sel : List Sel) (base : Nat) : List C → Option (List C)
  | [] => some []
  | c :: cs => match bcC brw sel base c, bcCs brw sel base cs with | some c', some cs' => some (c' :: cs') | _, _ => none
def bcP (brw : Bool) (sel : List Sel) (base : Nat) : PV → Option PV
  | .c x => (bcC brw sel base x).map .c
  | .agg xs => (bcCs brw sel base xs).map .agg
def bcPs (brw : Bool) (sel : List Sel) (base : Nat) : List PV → Option (List PV)
  | [] => some []
  | c :: cs => match bcP brw sel base c, bcPs brw sel base cs with | some c', some cs' => some (c' :: cs') | _, _ => none
def bcA (brw : Bool) (sel : List Sel) (base : Nat) : AV → Option AV
  | .p x => (bcP brw sel base x).map .p
  | .tup xs => (bcPs brw sel base xs).map .tup
def bcOb (brw : Bool) (sel : List Sel) (base : Nat) : Ob → Option Ob
  | .box cs => (bcCs brw sel base cs).map .box
  | o => some o
def bcObs (brw : Bool) (sel : List Sel) (base : Nat) : List Ob → Option (List Ob)
  | [] => some []
  | c :: cs => match bcOb brw sel base c, bcObs brw sel base cs with | some c', some cs' => some (c' :: cs') | _, _ => none
def wb (brw : Bool) (sel0 : List Sel) (base : Nat) : List Sel → List Ob → List Ob → Option (List Ob)
  | [], rest, H => (bcObs brw sel0 base rest).map fun r => H ++ r
  | .whole o :: r, ob :: rest, H => match bcOb brw sel0 base ob with
    | some ob' => wb brw sel0 base r rest (H.set o ob')
    | none => none
  | .win o j n :: r, .box ds :: rest, H => match bcCs brw sel0 base ds, H[o]? with
    | some ds', some (.box cs) => if ds.length = n ∧ j + n ≤ cs.length then wb brw sel0 base r rest (H.set o (.box (splice cs ds' j))) else none
    | _, _ => none
  | _, _, _ => none
structure BackOk (sel : List Sel) (base : Nat) (brw : Bool) (M' M'' : List Pl) (Z' Z'' : CS) : Prop where
  m : ∀ i o j0 p b f, bix sel base i = some (o, j0) → M'[i]? = some p → p.av = some ⟨b, f, none⟩ → ∃ p' f', M''[o]? = some p' ∧ p'.av = some ⟨b, f', none⟩ ∧ f' + j0 = f
  w : ∀ i o p, bixW sel base i = some o → M'[i]? = some p → M''[o]? = some p
  z : brw = false → ∀ k j, Z' k j → Z'' k j
section
variable {sel : List Sel} {base : Nat} {brw : Bool} {M' M'' : List Pl} {Z' Z'' : CS} {w : World}
theorem bcCaps_rel (h : BackOk sel base brw M' M'' Z' Z'') : ∀ {cs cs' : List (Nat × Nat)} {vs : List Value}, bcCaps sel base cs = some cs' → CapsRel M' cs vs → CapsRel M'' cs' vs
  | [], _, _, hc, hr => by simp only [bcCaps, Option.some.injEq] at hc; subst hc; exact hr
  | (o, j) :: r, cs', vs, hc, ⟨p, b, f, r', hv, hp, ha, hr⟩ => by
    simp only [bcCaps] at hc
    split at hc
    · rename_i q r'' ho hrr
      cases hc
      obtain ⟨p', f', hp', ha', hf⟩ := h.m o q.1 q.2 p b f ho hp ha
      exact ⟨p', b, f', r', by rw [hv, ← hf, Nat.add_assoc], hp', ha', bcCaps_rel h hrr hr⟩
    · cases hc
theorem BackOk.zone (h : BackOk sel base brw M' M'' Z' Z'') {o o' : Nat} (ho : bixW sel base o = some o') : ∀ k j, zone M' Z' (some o) k j → zone M'' Z'' (some o') k j :=
  fun _ _ ⟨p, hp, hs⟩ => ⟨p, h.w o o' p ho hp, hs⟩
theorem bcC_rel (h : BackOk sel base brw M' M'' Z' Z'') {c c' : C} {v : Value} (hc : bcC brw sel base c = some c') (hr : CRel M' Z' w c v) : CRel M'' Z'' w c' v := by
  cases c with
  | ptr o j =>
    simp only [bcC, Option.map_eq_some_iff] at hc
    obtain ⟨q, ho, rfl⟩ := hc
    obtain ⟨p, b, f, hp, ha, hv⟩ := hr
    obtain ⟨p', f', hp', ha', hf⟩ := h.m o q.1 q.2 p b f ho hp ha
    exact ⟨p', b, f', hp', ha', by rw [hv, ← hf, Nat.add_assoc]⟩
  | ep o i t x j =>
    simp only [bcC, Option.map_eq_some_iff] at hc
    obtain ⟨o', ho, rfl⟩ := hc
    obtain ⟨p, b, hp, ha, hi, he, hv⟩ := hr
    exact ⟨p, b, h.w o o' p ho hp, ha, hi, he, hv⟩
  | vp d t x j =>
    obtain ⟨b, f, he, hv⟩ := hr
    cases d with
    | none =>
      simp only [bcC] at hc
      split at hc
      · cases hc
      · rename_i hb; cases hc; exact ⟨b, f, he.mono (h.z (by simpa using hb)), hv⟩
    | some o =>
      simp only [bcC, Option.map_eq_some_iff] at hc
      obtain ⟨o', ho, rfl⟩ := hc
      exact ⟨b, f, he.mono (h.zone ho), hv⟩
  | sl o =>
    simp only [bcC, Option.map_eq_some_iff] at hc
    obtain ⟨o', ho, rfl⟩ := hc
    obtain ⟨p, hp, hv⟩ := hr
    exact ⟨p, h.w o o' p ho hp, hv⟩
  | vw d t xs =>
    cases d with
    | none =>
      simp only [bcC] at hc
      split at hc
      · cases hc
      · rename_i hb; cases hc; exact SlRd.mono (h.z (by simpa using hb)) hr
    | some o =>
      simp only [bcC, Option.map_eq_some_iff] at hc
      obtain ⟨o', ho, rfl⟩ := hc
      exact SlRd.mono (h.zone ho) hr
  | fn f caps =>
    simp only [bcC, Option.map_eq_some_iff] at hc
    obtain ⟨caps', hcs, rfl⟩ := hc
    obtain ⟨vs, hv, hcr⟩ := hr
    exact ⟨vs, hv, bcCaps_rel h hcs hcr⟩
  | mp o =>
    simp only [bcC, Option.map_eq_some_iff] at hc
    obtain ⟨o', ho, rfl⟩ := hc
    obtain ⟨p, b, hp, ha, hv⟩ := hr
    exact ⟨p, b, h.w o o' p ho hp, ha, hv⟩
  | _ => simp only [bcC, Option.some.injEq] at hc; subst hc; exact hr
theorem bcCs_rel (h : BackOk sel base brw M' M'' Z' Z'') : ∀ {cs cs' : List C} {vs : List Value}, bcCs brw sel base cs = some cs' → CsRel M' Z' w cs vs → CsRel M'' Z'' w cs' vs
  | [], _, _, hc, hr => by simp only [bcCs, Option.some.injEq] at hc; subst hc; exact hr
  | c :: r, cs', vs, hc, ⟨v, r', hv, h1, h2⟩ => by
    simp only [bcCs] at hc
    split at hc
    · rename_i c' r'' ho hrr
      cases hc
      exact ⟨v, r', hv, bcC_rel h ho h1, bcCs_rel h hrr h2⟩
    · cases hc
theorem bcCs_len : ∀ {cs cs' : List C}, bcCs brw sel base cs = some cs' → cs'.length = cs.length
  | [], _, hc => by simp only [bcCs, Option.some.injEq] at hc; subst hc; rfl
  | c :: r, cs', hc => by
    simp only [bcCs] at hc
    split at hc
    · rename_i c' r'' ho hrr
      cases hc
      simp [bcCs_len hrr]
    · cases hc
theorem bcP_rel (h : BackOk sel base brw M' M'' Z' Z'') {x x' : PV} {v : Value} (hc : bcP brw sel base x = some x') (hr : PRel M' Z' w x v) : PRel M'' Z'' w x' v := by
  cases x <;> simp only [bcP, Option.map_eq_some_iff] at hc
  case c x => obtain ⟨x', hx, rfl⟩ := hc; exact bcC_rel h hx hr
  case agg xs =>
    obtain ⟨xs', hx, rfl⟩ := hc
    obtain ⟨vs, hv, hrs⟩ := hr
    exact ⟨vs, hv, bcCs_rel h hx hrs⟩
theorem bcPs_rel (h : BackOk sel base brw M' M'' Z' Z'') : ∀ {cs cs' : List PV} {vs : List Value}, bcPs brw sel base cs = some cs' → PsRel M' Z' w cs vs → PsRel M'' Z'' w cs' vs
  | [], _, _, hc, hr => by simp only [bcPs, Option.some.injEq] at hc; subst hc; exact hr
  | c :: r, cs', vs, hc, ⟨v, r', hv, h1, h2⟩ => by
    simp only [bcPs] at hc
    split at hc
    · rename_i c' r'' ho hrr
      cases hc
      exact ⟨v, r', hv, bcP_rel h ho h1, bcPs_rel h hrr h2⟩
    · cases hc
theorem bcA_rel (h : BackOk sel base brw M' M'' Z' Z'') {x x' : AV} {v : Value} (hc : bcA brw sel base x = some x') (hr : ARel M' Z' w x v) : ARel M'' Z'' w x' v := by
  cases x <;> simp only [bcA, Option.map_eq_some_iff] at hc
  case p x => obtain ⟨x', hx, rfl⟩ := hc; exact bcP_rel h hx hr
  case tup xs =>
    obtain ⟨xs', hx, rfl⟩ := hc
    obtain ⟨vs, hv, hrs⟩ := hr
    exact ⟨vs, hv, bcPs_rel h hx hrs⟩
theorem bcOb_rel (h : BackOk sel base brw M' M'' Z' Z'') {o o' : Ob} {p : Pl} (hc : bcOb brw sel base o = some o') (hr : ObRel M' Z' w o p) : ObRel M'' Z'' w o' p := by
  cases o <;> simp only [bcOb, Option.map_eq_some_iff, Option.some.injEq] at hc
  case box cs =>
    obtain ⟨cs', hcs, rfl⟩ := hc
    obtain ⟨b, f, ha, hS, hf, vs, hv, hcell⟩ := hr
    have hl := bcCs_len hcs
    exact ⟨b, f, ha, fun k j => by rw [hS k j, hl], fun i hi => hf i (hl ▸ hi), vs, bcCs_rel h hcs hv, hcell⟩
  all_goals (subst hc; exact hr)
theorem bcObs_get : ∀ {cs cs' : List Ob}, bcObs brw sel base cs = some cs' → cs'.length = cs.length ∧ ∀ (i : Nat) (y : Ob), cs'[i]? = some y → ∃ x, cs[i]? = some x ∧ bcOb brw sel base x = some y
  | [], _, hc => by simp only [bcObs, Option.some.injEq] at hc; subst hc; exact ⟨rfl, fun i y h => by simp at h⟩
  | c :: r, cs', hc => by
    simp only [bcObs] at hc
    split at hc
    · rename_i c' r'' ho hrr
      cases hc
      obtain ⟨hl, hg⟩ := bcObs_get hrr
      refine ⟨by simp [hl], fun i y hy => ?_⟩
      cases i with
      | zero => simp at hy; subst hy; exact ⟨c, rfl, ho⟩
      | succ i => simpa using hg i y (by simpa using hy)
    · cases hc
structure WbOk (brw : Bool) (sel0 : List Sel) (base : Nat) (ss : List Sel) (rest H H' : List Ob) : Prop where
  le : ss.length ≤ rest.length
  len : H'.length = H.length + (rest.length - ss.length)
  same : ∀ o, o < H.length → (∀ s, s ∈ ss → s.o ≠ o) → H'[o]? = H[o]?
  sel : ∀ (i : Nat) (s : Sel), ss[i]? = some s → ∀ y : Ob, H'[s.o]? = some y → s.o < H.length → ∃ x, rest[i]? = some x ∧ ((∃ o, s = .whole o ∧ bcOb brw sel0 base x = some y) ∨
    ∃ o j n ds ds' cs, s = .win o j n ∧ x = .box ds ∧ bcCs brw sel0 base ds = some ds' ∧ H[o]? = some (.box cs) ∧ ds.length = n ∧ j + n ≤ cs.length ∧ y = .box (splice cs ds' j))
  new : ∀ (j : Nat) (y : Ob), H'[H.length + j]? = some y → ∃ x, rest[ss.length + j]? = some x ∧ bcOb brw sel0 base x = some y
theorem wb_ok : ∀ {ss : List Sel} {rest H H' : List Ob}, (ss.map Sel.o).Nodup → wb brw sel base ss rest H = some H' → WbOk brw sel base ss rest H H'
  | [], rest, H, H', _, h => by
    simp only [wb, Option.map_eq_some_iff] at h
    obtain ⟨r, hr, rfl⟩ := h
    obtain ⟨hl, hg⟩ := bcObs_get hr
    exact ⟨Nat.zero_le _, by simp [hl], fun o ho _ => by rw [List.getElem?_append_left ho], fun i s hi => by simp at hi, fun j y hy => by
      rw [List.getElem?_append_right (by omega)] at hy
      simpa using hg j y (by simpa using hy)⟩
  | .whole o :: r, ob :: rest, H, H', hd, h => by
    simp only [wb] at h
    split at h
    · rename_i ob' hob
      have hd' := List.nodup_cons.1 hd
      have ih := wb_ok hd'.2 h
      have hlen : (H.set o ob').length = H.length := by simp
      refine ⟨by simpa using ih.le, by rw [ih.len, hlen]; simp, fun o' ho' hs => ?_, fun i s hi y hy hlt => ?_, fun j y hy => ?_⟩
      · rw [ih.same o' (by rw [hlen]; exact ho') fun s hs' => hs s (List.mem_cons_of_mem _ hs')]
        rw [List.getElem?_set, if_neg (show o ≠ o' from hs _ (List.mem_cons_self))]
      · cases i with
        | zero =>
          simp at hi; subst hi
          refine ⟨ob, rfl, .inl ⟨o, rfl, ?_⟩⟩
          have hsame := ih.same o (by rw [hlen]; exact hlt) fun s hs' he => hd'.1 (List.mem_map.2 ⟨s, hs', he⟩)
          simp only [Sel.o] at hy
          rw [hsame] at hy
          have hlt' : o < H.length := hlt
          rw [List.getElem?_set] at hy
          simp [hlt'] at hy
          subst hy; exact hob
        | succ i =>
          obtain ⟨x, hx, hh⟩ := ih.sel i s (by simpa using hi) y hy (by rw [hlen]; exact hlt)
          refine ⟨x, by simpa using hx, hh.imp id ?_⟩
          rintro ⟨o1, j, n, ds, ds', cs, rfl, hx1, hds, hH, hh⟩
          refine ⟨o1, j, n, ds, ds', cs, rfl, hx1, hds, ?_, hh⟩
          rw [List.getElem?_set, if_neg] at hH
          · exact hH
          · rintro rfl
            have hi' := List.mem_of_getElem? (l := r) (i := i) (by simpa using hi)
            exact hd'.1 (List.mem_map.2 ⟨_, hi', rfl⟩)
      · obtain ⟨x, hx, hh⟩ := ih.new j y (by rw [hlen]; exact hy)
        exact ⟨x, by rw [show (Sel.whole o :: r).length + j = (r.length + j) + 1 from by simp; omega]; simpa using hx, hh⟩
    · cases h
  | .win o j n :: r, .box ds :: rest, H, H', hd, h => by
    simp only [wb] at h
    split at h
    · rename_i ds' cs hds hH
      split at h
      · rename_i hn
        have hd' := List.nodup_cons.1 hd
        have ih := wb_ok hd'.2 h
        have hlen : (H.set o (.box (splice cs ds' j))).length = H.length := by simp
        refine ⟨by simpa using ih.le, by rw [ih.len, hlen]; simp, fun o' ho' hs => ?_, fun i s hi y hy hlt => ?_, fun j y hy => ?_⟩
        · rw [ih.same o' (by rw [hlen]; exact ho') fun s hs' => hs s (List.mem_cons_of_mem _ hs')]
          rw [List.getElem?_set, if_neg (show o ≠ o' from hs _ (List.mem_cons_self))]
        · cases i with
          | zero =>
            simp at hi; subst hi
            refine ⟨_, rfl, .inr ⟨o, j, n, ds, ds', cs, rfl, rfl, hds, hH, hn.1, hn.2, ?_⟩⟩
            have hsame := ih.same o (by rw [hlen]; exact hlt) fun s hs' he => hd'.1 (List.mem_map.2 ⟨s, hs', he⟩)
            simp only [Sel.o] at hy
            rw [hsame] at hy
            have hlt' : o < H.length := hlt
            rw [List.getElem?_set] at hy
            simp [hlt'] at hy
            exact hy.symm
          | succ i =>
            obtain ⟨x, hx, hh⟩ := ih.sel i s (by simpa using hi) y hy (by rw [hlen]; exact hlt)
            refine ⟨x, by simpa using hx, hh.imp id ?_⟩
            rintro ⟨o1, j, n, ds, ds', cs, rfl, hx1, hds, hH, hh⟩
            refine ⟨o1, j, n, ds, ds', cs, rfl, hx1, hds, ?_, hh⟩
            rw [List.getElem?_set, if_neg] at hH
            · exact hH
            · rintro rfl
              have hi' := List.mem_of_getElem? (l := r) (i := i) (by simpa using hi)
              exact hd'.1 (List.mem_map.2 ⟨_, hi', rfl⟩)
        · obtain ⟨x, hx, hh⟩ := ih.new j y (by rw [hlen]; exact hy)
          exact ⟨x, by rw [show (Sel.win o _ n :: r).length + j = (r.length + j) + 1 from by simp; omega]; simpa using hx, hh⟩
      · cases h
    · cases h
  | .whole o :: r, [], H, H', _, h => by simp [wb] at h
  | .win o j n :: r, [], H, H', _, h => by simp [wb] at h
  | .win o j n :: r, .row _ _ :: _, H, H', _, h => by simp [wb] at h
  | .win o j n :: r, .dead :: _, H, H', _, h => by simp [wb] at h
end
end Go.Proofs.YtmbbapeiikifgaaGreatDoor
