/- Rules as the printed proofs use them. -/
import Derived.Test.YtmbbapeiikifgaaGreatDoorSlKb
namespace Go.Proofs.YtmbbapeiikifgaaGreatDoor
open Go
section
variable {E : Env} {k : List Item} {st st' : St}
theorem WT.regB {id : Nat} {ops : Array Oper} (is rest : List Nat) (ws : List Wit) {cs : List Prop} {ws' : List Wit} (hs : List.range ops.size = is ++ rest) (h : runL E.P E.nt ops is ws [] st = some (st', cs, ws')) (hc : AllP cs) (hw : WT E (.inRegion ops rest :: k) st') :
    WT E (.code (.region id ops false) :: k) st := by
  refine .region ?_
  rw [hs]
  exact WT.run h hc hw
theorem WT.regN {ops : Array Oper} {rest0 : List Nat} (is rest : List Nat) (ws : List Wit) {cs : List Prop} {ws' : List Wit} (hs : rest0 = is ++ rest) (h : runL E.P E.nt ops is ws [] st = some (st', cs, ws')) (hc : AllP cs) (hw : WT E (.inRegion ops rest :: k) st') :
    WT E (.inRegion ops rest0 :: k) st := by
  rw [hs]
  exact WT.run h hc hw
theorem WT.cond {c : Operand} {x y : Code} {b : Bool} (hb : opd st.T c = some (.p (.c (.bool b)))) (h : WT E (.code (if b then x else y) :: k) st) : WT E (.code (.cond c x y) :: k) st := by
  intro M Z a w hr cs
  exact .of_step (step_cond (opd_rel hr hb)) (h M Z a w hr cs)
theorem WT.condT {c : Operand} {x y : Code} (hb : opd st.T c = some (.p (.c (.bool true)))) (h : WT E (.code x :: k) st) : WT E (.code (.cond c x y) :: k) st := .cond hb h
theorem WT.condF {c : Operand} {x y : Code} (hb : opd st.T c = some (.p (.c (.bool false)))) (h : WT E (.code y :: k) st) : WT E (.code (.cond c x y) :: k) st := .cond hb h
theorem WT.join {it : Item} {α β : Type} {f : α → Option β} {r : β} {S : α → St} (J : ∀ v, f v = some r → WT E k (S v)) (h : (∀ v, f v = some r → WT E k (S v)) → WT E (it :: k) st) : WT E (it :: k) st := h J
def pickRet (n0 : Nat) (sel : List Nat) (r : AV) (H : List Ob) : Option (AV × List Ob) :=
  if sel.Nodup ∧ sel.take n0 = List.range n0 then
    match renA (ixOf sel) r, pickH (ixOf sel) H sel with
    | some r', some H' => some (r', H')
    | _, _ => none
  else none
theorem Rel.pickR {M : List Pl} {Z : CS} {a : Act} {w : World} (hr : Rel E st M Z a w) {sel : List Nat} {r r' : AV} {H' : List Ob} (h : pickRet E.n0 sel r st.H = some (r', H')) {v : Value} (hv : ARel M Z w r v) :
    ∃ M', Rel E ⟨[], H'⟩ M' Z a w ∧ ARel M' Z w r' v := by
  unfold pickRet at h
  split at h
  · rename_i hc
    split at h
    · rename_i r1 H1 h1 h2
      simp only [Option.some.injEq, Prod.mk.injEq] at h
      obtain ⟨rfl, rfl⟩ := h
      have hp : pickSt E.n0 sel [] st = some ⟨[], H1⟩ := by
        unfold pickSt
        rw [if_pos hc]
        simp [pickT, h2]
      obtain ⟨M', hr', _, _, _, hren⟩ := hr.pick hp
      exact ⟨M', hr', renA_rel hren h1 hv⟩
    · cases h
  · cases h
theorem WT.ret2 {fn : Func} {r r0 : AV} {H' : List Ob} (hE : Ends E fn r H') {st' : St} (ss : List Sop) (sel : List Nat) (h : retell E.n0 ss st = some st') (hr : resA E.P st' fn.results = some r0) (hp : pickRet E.n0 sel r0 st'.H = some (r, H')) : WT E (.code .ret :: k) st := by
  refine .sops ss h fun M Z a w hrel cs => ?_
  obtain ⟨v, hv, hvr⟩ := resA_run hrel hr
  obtain ⟨M', hrel', hvr'⟩ := hrel.pickR hp hvr
  exact .ret hE.f hrel.df hv (hrel'.fin hE rfl hvr')
theorem WT.fall2 {fn : Func} {r r0 : AV} {H' : List Ob} (hE : Ends E fn r H') {st' : St} (ss : List Sop) (sel : List Nat) (h : retell E.n0 ss st = some st') (hr : resA E.P st' fn.results = some r0) (hp : pickRet E.n0 sel r0 st'.H = some (r, H')) : WT E [] st := by
  refine .sops ss h fun M Z a w hrel cs => ?_
  obtain ⟨v, hv, hvr⟩ := resA_run hrel hr
  obtain ⟨M', hrel', hvr'⟩ := hrel.pickR hp hvr
  exact .fall hE.f hrel.df hv (hrel'.fin hE rfl hvr')
def keepSt (n0 : Nat) (pk : Option (List Nat × List Nat)) (st : St) : Option St :=
  match pk with
  | none => some st
  | some (sel, keep) => pickSt n0 sel keep st
theorem WT.kept (pk : Option (List Nat × List Nat)) (h : keepSt E.n0 pk st = some st') (hw : WT E k st') : WT E k st := by
  cases pk with
  | none => simp only [keepSt, Option.some.injEq] at h; subst h; exact hw
  | some p => exact .sops [.pick p.1 p.2] (by simp only [retell, sop]; simp only [keepSt] at h; rw [h]) hw
def runK (P : Program) (nt n0 : Nat) (ops : Array Oper) (is : List Nat) (ws : List Wit) (pk : Option (List Nat × List Nat)) (st : St) : Option (St × List Prop × List Wit) :=
  match runL P nt ops is ws [] st with
  | some (st1, cs, ws') => match keepSt n0 pk st1 with
    | some st2 => some (st2, cs, ws')
    | none => none
  | none => none
theorem runK_spec {P : Program} {nt n0 : Nat} {ops : Array Oper} {is : List Nat} {ws ws' : List Wit} {pk : Option (List Nat × List Nat)} {cs : List Prop} (h : runK P nt n0 ops is ws pk st = some (st', cs, ws')) :
    ∃ st1, runL P nt ops is ws [] st = some (st1, cs, ws') ∧ keepSt n0 pk st1 = some st' := by
  unfold runK at h
  split at h
  · rename_i st1 cs1 ws1 h1
    split at h
    · rename_i st2 h2
      simp only [Option.some.injEq, Prod.mk.injEq] at h
      obtain ⟨rfl, rfl, rfl⟩ := h
      exact ⟨st1, h1, h2⟩
    · cases h
  · cases h
theorem WT.rW {id : Nat} {ops : Array Oper} (ws : List Wit) (pk : Option (List Nat × List Nat)) (st' : St) (cs : List Prop) (h : runK E.P E.nt E.n0 ops (List.range ops.size) ws pk st = some (st', cs, [])) (hc : AllP cs) (hw : WT E k st') :
    WT E (.code (.region id ops false) :: k) st := by
  obtain ⟨st1, h1, h2⟩ := runK_spec h
  exact WT.reg (st' := st1) ws h1 hc (WT.kept pk h2 hw)
theorem WT.rB {id : Nat} {ops : Array Oper} (is rest : List Nat) (ws : List Wit) (st' : St) (cs : List Prop) (hs : List.range ops.size = is ++ rest) (h : runL E.P E.nt ops is ws [] st = some (st', cs, [])) (hc : AllP cs) (hw : WT E (.inRegion ops rest :: k) st') :
    WT E (.code (.region id ops false) :: k) st :=
  WT.regB (st' := st') (cs := cs) (ws' := []) is rest ws hs h hc hw
theorem WT.rN {ops : Array Oper} {rest0 : List Nat} (is rest : List Nat) (ws : List Wit) (st' : St) (cs : List Prop) (hs : rest0 = is ++ rest) (h : runL E.P E.nt ops is ws [] st = some (st', cs, [])) (hc : AllP cs) (hw : WT E (.inRegion ops rest :: k) st') :
    WT E (.inRegion ops rest0 :: k) st :=
  WT.regN (st' := st') (cs := cs) (ws' := []) is rest ws hs h hc hw
theorem WT.rE {ops : Array Oper} {is : List Nat} (ws : List Wit) (pk : Option (List Nat × List Nat)) (st' : St) (cs : List Prop) (h : runK E.P E.nt E.n0 ops is ws pk st = some (st', cs, [])) (hc : AllP cs) (hw : WT E k st') :
    WT E (.inRegion ops is :: k) st := by
  obtain ⟨st1, h1, h2⟩ := runK_spec h
  exact WT.regN (st' := st1) (cs := cs) (ws' := []) is [] ws (List.append_nil is).symm h1 hc (WT.regionEnd (WT.kept pk h2 hw))
theorem WA.doneK {ops : Array Oper} {n : Nat} {pr wt : List Rd} {fuel : Nat} {listed : Array Bool} (pk : Option (List Nat × List Nat)) (st' : St) (hrd : Region.ready .any ops listed = []) (h : keepSt E.n0 pk st = some st') (hw : WT E k st') : WA E k ops n pr wt fuel listed st := WA.done hrd (WT.kept pk h hw)
theorem WT.cT {c : Operand} {x y : Code} {b : Bool} (he : b = true) (hb : opd st.T c = some (.p (.c (.bool b)))) (h : WT E (.code x :: k) st) : WT E (.code (.cond c x y) :: k) st := by
  subst he; exact .condT hb h
theorem WT.cF {c : Operand} {x y : Code} {b : Bool} (he : b = false) (hb : opd st.T c = some (.p (.c (.bool b)))) (h : WT E (.code y :: k) st) : WT E (.code (.cond c x y) :: k) st := by
  subst he; exact .condF hb h
def retAll (P : Program) (n0 : Nat) (fn : Func) (ss : List Sop) (sel : List Nat) (st : St) : Option (AV × List Ob) :=
  match retell n0 ss st with
  | some st' => match resA P st' fn.results with
    | some r0 => pickRet n0 sel r0 st'.H
    | none => none
  | none => none
theorem retAll_spec {P : Program} {n0 : Nat} {fn : Func} {ss : List Sop} {sel : List Nat} {r : AV × List Ob} (h : retAll P n0 fn ss sel st = some r) :
    ∃ st' r0, retell n0 ss st = some st' ∧ resA P st' fn.results = some r0 ∧ pickRet n0 sel r0 st'.H = some r := by
  unfold retAll at h
  split at h
  · rename_i st' h1
    split at h
    · rename_i r0 h2; exact ⟨st', r0, h1, h2, h⟩
    · cases h
  · cases h
theorem WT.ret3 {fn : Func} {r : AV} {H' : List Ob} (hE : Ends E fn r H') (ss : List Sop) (sel : List Nat) (h : retAll E.P E.n0 fn ss sel st = some (r, H')) : WT E (.code .ret :: k) st :=
  let ⟨_, _, h1, h2, h3⟩ := retAll_spec h
  WT.ret2 hE ss sel h1 h2 h3
theorem WT.fall3 {fn : Func} {r : AV} {H' : List Ob} (hE : Ends E fn r H') (ss : List Sop) (sel : List Nat) (h : retAll E.P E.n0 fn ss sel st = some (r, H')) : WT E [] st :=
  let ⟨_, _, h1, h2, h3⟩ := retAll_spec h
  WT.fall2 hE ss sel h1 h2 h3
theorem WT.loopsA {c : Code} {α β : Type} (S : α → St) {l : Nat → α → Option β} {r : β} (ss : List Sop) (x0 : α) (n : Nat) (hl : l n x0 = some r) (h0 : ∀ x, l 0 x = none) (hr : retell E.n0 ss st = some (S x0))
    (hs : ∀ n x, (∀ x', l n x' = some r → WT E (.inLoop c :: k) (S x')) → l (n + 1) x = some r → WT E (.code c :: .inLoop c :: k) (S x)) :
    WT E (.code (.loop c) :: k) st := WT.sops ss hr (WT.loops (S := S) h0 hs n x0 hl)
end
theorem iteE {α : Type} {c : Prop} [Decidable c] {a : Option α} {r : α} (h : (if c then a else none) = some r) : c ∧ a = some r := by
  split at h
  · rename_i hc; exact ⟨hc, h⟩
  · cases h
abbrev w64 : Int → Int := IntKind.i64.wrap
abbrev w32 : Int → Int := IntKind.i32.wrap
abbrev w8 : Int → Int := IntKind.u8.wrap
abbrev wu64 : Int → Int := IntKind.u64.wrap
theorem WA.lem {E : Env} {k : List Item} {ops : Array Oper} {n : Nat} {pr pr' wt : List Rd} {fuel fuel' : Nat} {listed listed' : Array Bool} {st st' : St} (h1 : WA E k ops n pr' wt fuel' listed' st') (h2 : WA E k ops n pr' wt fuel' listed' st' → WA E k ops n pr wt fuel listed st) : WA E k ops n pr wt fuel listed st := h2 h1
theorem allW2 {Q : Nat → Prop} {i0 i1 : Nat} (h0 : Q i0) (h1 : Q i1) : ∀ i, i ∈ [i0, i1] → Q i := by
  intro i hi
  simp only [List.mem_cons, List.not_mem_nil, or_false] at hi
  rcases hi with rfl | rfl <;> assumption
theorem allW3 {Q : Nat → Prop} {i0 i1 i2 : Nat} (h0 : Q i0) (h1 : Q i1) (h2 : Q i2) : ∀ i, i ∈ [i0, i1, i2] → Q i := by
  intro i hi
  simp only [List.mem_cons, List.not_mem_nil, or_false] at hi
  rcases hi with rfl | rfl | rfl <;> assumption
theorem allW4 {Q : Nat → Prop} {i0 i1 i2 i3 : Nat} (h0 : Q i0) (h1 : Q i1) (h2 : Q i2) (h3 : Q i3) : ∀ i, i ∈ [i0, i1, i2, i3] → Q i := by
  intro i hi
  simp only [List.mem_cons, List.not_mem_nil, or_false] at hi
  rcases hi with rfl | rfl | rfl | rfl <;> assumption
theorem condE {α : Type} {e : Bool} {a b : Option α} {r : α} (h : cond e a b = some r) : (e = true ∧ a = some r) ∨ (e = false ∧ b = some r) := by
  cases e
  · exact .inr ⟨rfl, h⟩
  · exact .inl ⟨rfl, h⟩
theorem bindE {α β : Type} {a : Option α} {f : α → Option β} {r : β} (h : a.bind f = some r) : ∃ x, a = some x ∧ f x = some r := Option.bind_eq_some_iff.1 h
abbrev ci (n : Int) : C := .int .i64 n
abbrev sL (o : Nat) : AV := .p (.c (.sl o))
abbrev pT (o j : Nat) : AV := .p (.c (.ptr o j))
abbrev vV (d : Option Nat) (t : Ty) (xs : List t.T) : AV := .p (.c (.vw d t xs))
abbrev vP (d : Option Nat) (t : Ty) (x : t.T) (j : Nat) : AV := .p (.c (.vp d t x j))
abbrev eP (o i : Nat) (t : Ty) (x : t.T) (j : Nat) : AV := .p (.c (.ep o i t x j))
abbrev aG (cs : List C) : AV := .p (.agg cs)
abbrev iI (n : Int) : AV := .p (.c (.int .i64 n))
abbrev bB (b : Bool) : AV := .p (.c (.bool b))
abbrev sS (s : ByteArray) : AV := .p (.c (.str s))
end Go.Proofs.YtmbbapeiikifgaaGreatDoor
