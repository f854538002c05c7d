/- Regions whose operations are carried out in the order of the text: an executable walk over symbolic states. -/
import Derived.Test.YtmbbapeiikifgaaGreatDoorSlMp
namespace Go.Proofs.YtmbbapeiikifgaaGreatDoor
open Go
def evOp (P : Program) (st : St) (wit : Option Wit) (o : Oper) : Option MRes :=
  match o.op with
  | .store t x v => match evStore P st t x v with
    | some r => some r
    | none => evRowStore P st t x v
  | .buildSlice t len parts => evBuildSlice P st wit t len parts
  | .makeSlice t l c => evMakeSlice P st wit t l c
  | .alloc t => evAlloc P st t
  | .box _ x => evBox st x
  | .makeMap t none => evMakeMap st wit t
  | .lookup t m k false => evLookup P st t m k
  | .mapEntry t m k => evMapEntry P st t m k
  | .entryStore _ m s x => evEntryStore st m s x
  | _ => (evV P st wit o).map fun r => ⟨some r.y, st, r.c, .no⟩
def put1 (nt : Nat) (o : Oper) (r : MRes) : Option St :=
  match o.dst, r.y with
  | some d, some y => if d < nt then some ⟨tput r.st.T d y, r.st.H⟩ else none
  | some d, none => some ⟨tdrop r.st.T d, r.st.H⟩
  | none, _ => some r.st
def guardOk (ops : Array Oper) (T : List (Nat × AV)) (o : Oper) : Option Bool :=
  match o.guard with
  | none => some true
  | some (j, want) =>
    match (ops[j]?).bind (·.dst) with
    | none => none
    | some d => match tget T d with
      | some (.p (.c (.bool b))) => some (b == want)
      | some (.tup []) => some false
      | _ => none
def takesWit : Op → Bool
  | .indexAddr .. | .buildSlice .. | .makeSlice .. | .makeMap .. => true
  | _ => false
def stepOp (P : Program) (nt : Nat) (o : Oper) (ws : List Wit) (st : St) : Option (St × List Prop × List Wit) :=
  match evOp P st (if takesWit o.op then ws.head? else none) o with
  | none => none
  | some r => match put1 nt o r with
    | none => none
    | some st' => some (st', r.c.toList, if takesWit o.op then ws.tail else ws)
def skipOp (nt : Nat) (o : Oper) (st : St) : Option St :=
  match o.dst with
  | some d => if d < nt then some ⟨tput st.T d (.tup []), st.H⟩ else none
  | none => some st
def runL (P : Program) (nt : Nat) (ops : Array Oper) : List Nat → List Wit → List Prop → St → Option (St × List Prop × List Wit)
  | [], ws, cs, st => some (st, cs, ws)
  | i :: is, ws, cs, st =>
    match ops[i]? with
    | none => none
    | some o => match guardOk ops st.T o with
      | none => none
      | some false => match skipOp nt o st with
        | none => none
        | some st' => runL P nt ops is ws cs st'
      | some true => match stepOp P nt o ws st with
        | none => none
        | some (st', c, ws') => runL P nt ops is ws' (cs ++ c) st'
def AllP : List Prop → Prop
  | [] => True
  | c :: cs => c ∧ AllP cs
theorem AllP_append {xs ys : List Prop} : AllP (xs ++ ys) ↔ AllP xs ∧ AllP ys := by
  induction xs with
  | nil => simp [AllP]
  | cons x xs ih => simp [AllP, ih, and_assoc]
section
variable {E : Env} {st : St} {M : List Pl} {Z : CS} {a : Act} {w w' : World} {o : Oper}
theorem VOk.mok {r : VRes} (hr : Rel E st M Z a w) (h : VOk E M Z a w o r) : MOk E M Z a w o ⟨some r.y, st, r.c, .no⟩ := by
  obtain ⟨v, hv, hrun⟩ := h
  exact ⟨M, w, hr, MSub.refl M, fun i p' k j hi hl _ => absurd (List.getElem?_eq_some_iff.1 hi).1 (by omega), Keep.refl _ _, v, hrun w fun _ _ _ _ h => h, hv⟩
theorem evOp_ok {r : MRes} (hr : Rel E st M Z a w) {wit : Option Wit} (h : evOp E.P st wit o = some r) (hc : met r.c) : MOk E M Z a w o r := by
  unfold evOp at h
  split at h
  · rename_i t x v ho
    split at h
    · rename_i r' hs; cases h; exact evStore_ok hr ho hs
    · exact evRowStore_ok hr ho h
  · rename_i t len parts ho; exact evBuildSlice_ok hr ho h
  · rename_i t l c ho; exact evMakeSlice_ok hr ho h hc
  · rename_i t ho; exact evAlloc_ok hr ho h
  · rename_i t x ho; exact evBox_ok hr ho h
  · rename_i t ho; exact evMakeMap_ok hr ho h
  · rename_i t m k ho; exact evLookup_ok hr ho h hc
  · rename_i t m k ho; exact evMapEntry_ok hr ho h hc
  · rename_i t m s x ho; exact evEntryStore_ok hr ho h hc
  · simp only [Option.map_eq_some_iff] at h
    obtain ⟨r', hr', rfl⟩ := h
    exact (evV_ok hr hr' hc).mok hr
theorem MOk.wp {r : MRes} (h : MOk E M Z a w o r) {st' : St} (hp : put1 E.nt o r = some st') {K : Act → World → Prop} {Q : Exit → Act → World → Prop}
    (hK : ∀ M' a' w', Rel E st' M' Z a' w' → MSub M M' → (∀ (i : Nat) (p' : Pl) k j, M'[i]? = some p' → M.length ≤ i → p'.S k j → fresh w k j ∨ r.md.set M Z k j) → Keep w w' (r.md.set M Z) → K a' w') : o.wp E.P a w K Q := by
  obtain ⟨M', w', hr, hm, hn, hk, hy⟩ := h
  unfold put1 at hp
  unfold Oper.wp
  split at hp
  · rename_i d y hd hry
    split at hp
    · rename_i hlt
      cases hp
      rw [hry] at hy
      obtain ⟨v, hrun, hv⟩ := hy
      rw [hrun]
      simp only [Oper.upon, hd]
      exact hK _ _ _ (hr.put hlt hv) hm hn hk
    · cases hp
  · rename_i d hd hry
    cases hp
    rw [hry] at hy
    dsimp only at hy
    rw [hy]
    simp only [Oper.upon, hd]
    exact hK _ _ _ (hr.undef d undef) hm hn hk
  · rename_i hd
    cases hp
    split at hy
    · obtain ⟨v, hrun, hv⟩ := hy
      rw [hrun]
      simp only [Oper.upon, hd, Act.put]
      exact hK _ _ _ hr hm hn hk
    · rw [hy]
      simp only [Oper.upon, hd, Act.put]
      exact hK _ _ _ hr hm hn hk
theorem guardOk_spec (hr : Rel E st M Z a w) {ops : Array Oper} {b : Bool} (h : guardOk ops st.T o = some b) : Region.wanted o (yielded ops a.tmps) = b := by
  unfold guardOk at h
  unfold Region.wanted
  split at h
  · rename_i hg; cases h; simp [hg]
  · rename_i j want hg
    split at h
    · cases h
    · rename_i d hd
      split at h
      · rename_i b' hb
        cases h
        obtain ⟨v, hv, hx⟩ := hr.tm _ _ (tget_mem hb)
        have hx' : v = .bool b' := hx
        subst hx'
        simp only [hg, yielded, hd, Option.bind_some, hv]
        cases b' <;> cases want <;> rfl
      · rename_i hb
        cases h
        obtain ⟨v, hv, us, hu, hx⟩ := hr.tm _ _ (tget_mem hb)
        subst hu
        simp only [hg, yielded, hd, Option.bind_some, hv]
        cases want <;> rfl
      · cases h
theorem skipOp_spec (hr : Rel E st M Z a w) {st' : St} (h : skipOp E.nt o st = some st') : Rel E st' M Z (a.put o.dst undef) w := by
  unfold skipOp at h
  split at h
  · rename_i d hd
    split at h
    · rename_i hlt
      cases h
      rw [hd]
      exact hr.put hlt ⟨[], rfl, rfl⟩
    · cases h
  · rename_i hd
    cases h
    rw [hd]
    exact hr
theorem stepOp_wp (hr : Rel E st M Z a w) {ws ws' : List Wit} {st' : St} {cs : List Prop} (h : stepOp E.P E.nt o ws st = some (st', cs, ws')) (hc : AllP cs)
    {K : Act → World → Prop} {Q : Exit → Act → World → Prop} (hK : ∀ M' Z' a' w', Rel E st' M' Z' a' w' → K a' w') : o.wp E.P a w K Q := by
  unfold stepOp at h
  split at h
  · cases h
  · rename_i r he
    split at h
    · cases h
    · rename_i st1 hp
      simp only [Option.some.injEq, Prod.mk.injEq] at h
      obtain ⟨rfl, rfl, rfl⟩ := h
      refine (evOp_ok hr he ?_).wp hp fun M' a' w' h1 _ _ _ => hK M' Z a' w' h1
      cases hrc : r.c with
      | none => trivial
      | some c => rw [hrc] at hc; exact hc.1
end
theorem WT.run {E : Env} {k : List Item} {ops : Array Oper} {rest : List Nat} : ∀ {is : List Nat} {ws ws' : List Wit} {cs0 cs : List Prop} {st st' : St},
    runL E.P E.nt ops is ws cs0 st = some (st', cs, ws') → AllP cs → WT E (.inRegion ops rest :: k) st' → WT E (.inRegion ops (is ++ rest) :: k) st
  | [], ws, ws', cs0, cs, st, st', h, hc, hw => by
    simp only [runL, Option.some.injEq, Prod.mk.injEq] at h
    obtain ⟨rfl, rfl, rfl⟩ := h
    exact hw
  | i :: is, ws, ws', cs0, cs, st, st', h, hc, hw => by
    have hcs0 : ∀ {is : List Nat} {ws : List Wit} {cs0 : List Prop} {st : St}, runL E.P E.nt ops is ws cs0 st = some (st', cs, ws') → AllP cs0 := by
      intro is
      induction is with
      | nil => intro ws cs0 st h; simp only [runL, Option.some.injEq, Prod.mk.injEq] at h; obtain ⟨_, rfl, _⟩ := h; exact hc
      | cons i is ih =>
        intro ws cs0 st h
        simp only [runL] at h
        split at h
        · cases h
        · split at h
          · cases h
          · split at h
            · cases h
            · exact ih h
          · split at h
            · cases h
            · exact (AllP_append.1 (ih h)).1
    intro M Z a w hr cs1
    simp only [runL] at h
    split at h
    · cases h
    · rename_i o ho
      split at h
      · cases h
      · rename_i hg
        split at h
        · cases h
        · rename_i st1 hs
          exact .opSkip ho (guardOk_spec hr hg) (WT.run h hc hw M Z _ w (skipOp_spec hr hs) cs1)
      · rename_i hg
        split at h
        · cases h
        · rename_i st1 c ws1 hs
          refine .op ho (guardOk_spec hr hg) (stepOp_wp hr hs (AllP_append.1 (hcs0 h)).2 fun M' Z' a' w' hr' => ?_)
          exact WT.run h hc hw M' Z' a' w' hr' cs1
def runR (P : Program) (nt : Nat) (ops : Array Oper) (ws : List Wit) (st : St) : Option (St × List Prop × List Wit) := runL P nt ops (List.range ops.size) ws [] st
theorem WT.reg {E : Env} {k : List Item} {id : Nat} {ops : Array Oper} {st st' : St} (ws : List Wit) {cs : List Prop} {ws' : List Wit} (h : runR E.P E.nt ops ws st = some (st', cs, ws')) (hc : AllP cs) (hw : WT E k st') :
    WT E (.code (.region id ops false) :: k) st := by
  refine .region ?_
  have := WT.run (rest := []) h hc (WT.regionEnd hw)
  rwa [List.append_nil] at this
end Go.Proofs.YtmbbapeiikifgaaGreatDoor
