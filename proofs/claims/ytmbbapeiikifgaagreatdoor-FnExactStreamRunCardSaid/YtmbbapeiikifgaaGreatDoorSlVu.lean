/- Rules that leave the state that comes unreckoned; booleans that are found out. -/
import Derived.Test.YtmbbapeiikifgaaGreatDoorSlAr
namespace Go.Proofs.YtmbbapeiikifgaaGreatDoor
open Go
def gB (T : List (Nat × AV)) (d : Nat) : Option Bool :=
  match tget T d with
  | some (.p (.c (.bool b))) => some b
  | _ => none
def putB (ds : List Nat) (b : Bool) (st : St) : St := ⟨st.T.map fun p => if ds.contains p.1 then (p.1, .p (.c (.bool b))) else p, st.H⟩
theorem Rel.putB {E : Env} {st : St} {M : List Pl} {Z : CS} {a : Act} {w : World} (h : Rel E st M Z a w) {ds : List Nat} {e b : Bool} (he : e = b) (hb : ds.map (gB st.T) = ds.map fun _ => some e) : Rel E (putB ds b st) M Z a w :=
  { df := h.df, nt := h.nt
    tm := fun d x hx => by
      simp only [Go.Proofs.YtmbbapeiikifgaaGreatDoor.putB, List.mem_map] at hx
      obtain ⟨p, hp, hx⟩ := hx
      split at hx
      · rename_i hd
        cases hx
        have hd' : p.1 ∈ ds := by simpa using hd
        have h1 : gB st.T p.1 = some e := by
          obtain ⟨i, hi⟩ := List.getElem?_of_mem hd'
          have := congrArg (fun l => l[i]?) hb
          simp only [List.getElem?_map, hi, Option.map_some, Option.some.injEq] at this
          exact this
        unfold gB at h1
        split at h1
        · rename_i b' hg
          cases h1
          obtain ⟨v, hv, hr⟩ := h.tm p.1 _ (tget_mem hg)
          exact ⟨v, hv, by subst he; exact hr⟩
        · cases h1
      · subst hx; exact h.tm _ _ hp
    ml := h.ml, ob := h.ob, dj := h.dj, dz := h.dz, lt := h.lt, zl := h.zl, kp := h.kp, os := h.os, zs := h.zs, z0 := h.z0, gl := h.gl, g := h.g }
def runS (P : Program) (nt : Nat) (ops : Array Oper) (is : List Nat) (ws : List Wit) (st : St) : St :=
  match runL P nt ops is ws [] st with
  | some r => r.1
  | none => st
section
variable {E : Env} {k : List Item} {st : St}
theorem WT.putB (ds : List Nat) {e b : Bool} (he : e = b) (h : WT E k (putB ds b st)) (hb : ds.map (gB st.T) = ds.map fun _ => some e) : WT E k st :=
  fun M Z a w hr cs => h M Z a w (hr.putB he hb) cs
theorem runS_spec {P : Program} {nt : Nat} {ops : Array Oper} {is : List Nat} {ws : List Wit} {cs : List Prop} (h : (runL P nt ops is ws [] st).map (fun r => r.2) = some (cs, [])) : runL P nt ops is ws [] st = some (runS P nt ops is ws st, cs, []) := by
  unfold runS
  cases hr : runL P nt ops is ws [] st with
  | none => rw [hr] at h; cases h
  | some r =>
    rw [hr] at h
    obtain ⟨r1, r2, r3⟩ := r
    simp only [Option.map_some, Option.some.injEq, Prod.mk.injEq] at h
    obtain ⟨rfl, rfl⟩ := h
    rfl
theorem getD_some {α : Type} {o : Option α} (h : o.isSome = true) (d : α) : o = some (o.getD d) := by
  cases o with
  | none => cases h
  | some x => rfl
theorem WT.vW {id : Nat} {ops : Array Oper} (ws : List Wit) (pk : Option (List Nat × List Nat)) (cs : List Prop) (hc : AllP cs) (hw : WT E k ((keepSt E.n0 pk (runS E.P E.nt ops (List.range ops.size) ws st)).getD st))
    (h : ((runL E.P E.nt ops (List.range ops.size) ws [] st).map (fun r => r.2), (keepSt E.n0 pk (runS E.P E.nt ops (List.range ops.size) ws st)).isSome) = (some (cs, []), true)) : WT E (.code (.region id ops false) :: k) st := by
  simp only [Prod.mk.injEq] at h
  exact WT.reg ws (runS_spec h.1) hc (WT.kept pk (getD_some h.2 st) hw)
theorem WT.vE {ops : Array Oper} {is : List Nat} (ws : List Wit) (pk : Option (List Nat × List Nat)) (cs : List Prop) (hc : AllP cs) (hw : WT E k ((keepSt E.n0 pk (runS E.P E.nt ops is ws st)).getD st))
    (h : ((runL E.P E.nt ops is ws [] st).map (fun r => r.2), (keepSt E.n0 pk (runS E.P E.nt ops is ws st)).isSome) = (some (cs, []), true)) : WT E (.inRegion ops is :: k) st := by
  simp only [Prod.mk.injEq] at h
  exact WT.regN (st' := runS E.P E.nt ops is ws st) (cs := cs) (ws' := []) is [] ws (List.append_nil is).symm (runS_spec h.1) hc (WT.regionEnd (WT.kept pk (getD_some h.2 st) hw))
theorem WT.xW {id : Nat} {ops : Array Oper} (ws : List Wit) (pk : Option (List Nat × List Nat)) (st' : St) (cs : List Prop) (hc : AllP cs) (hw : WT E k st') (h : runK E.P E.nt E.n0 ops (List.range ops.size) ws pk st = some (st', cs, [])) :
    WT E (.code (.region id ops false) :: k) st := WT.rW ws pk st' cs h hc hw
theorem WT.xE {ops : Array Oper} {is : List Nat} (ws : List Wit) (pk : Option (List Nat × List Nat)) (st' : St) (cs : List Prop) (hc : AllP cs) (hw : WT E k st') (h : runK E.P E.nt E.n0 ops is ws pk st = some (st', cs, [])) :
    WT E (.inRegion ops is :: k) st := WT.rE ws pk st' cs h hc hw
theorem WT.xT {c : Operand} {x y : Code} {b : Bool} (he : b = true) (h : WT E (.code x :: k) st) (hb : opd st.T c = some (.p (.c (.bool b)))) : WT E (.code (.cond c x y) :: k) st := WT.cT he hb h
theorem WT.xF {c : Operand} {x y : Code} {b : Bool} (he : b = false) (h : WT E (.code y :: k) st) (hb : opd st.T c = some (.p (.c (.bool b)))) : WT E (.code (.cond c x y) :: k) st := WT.cF he hb h
theorem WT.yT {c : Operand} {x y : Code} (h : WT E (.code x :: k) st) (hb : opd st.T c = some (.p (.c (.bool true)))) : WT E (.code (.cond c x y) :: k) st := WT.condT hb h
theorem WT.yF {c : Operand} {x y : Code} (h : WT E (.code y :: k) st) (hb : opd st.T c = some (.p (.c (.bool false)))) : WT E (.code (.cond c x y) :: k) st := WT.condF hb h
theorem WT.uB {id : Nat} {ops : Array Oper} (is rest : List Nat) (ws : List Wit) (cs : List Prop) (hs : List.range ops.size = is ++ rest) (hc : AllP cs)
    (hw : WT E (.inRegion ops rest :: k) (runS E.P E.nt ops is ws st)) (h : (runL E.P E.nt ops is ws [] st).map (fun r => r.2) = some (cs, [])) : WT E (.code (.region id ops false) :: k) st :=
  WT.rB is rest ws _ cs hs (runS_spec h) hc hw
theorem WT.uN {ops : Array Oper} {rest0 : List Nat} (is rest : List Nat) (ws : List Wit) (cs : List Prop) (hs : rest0 = is ++ rest) (hc : AllP cs)
    (hw : WT E (.inRegion ops rest :: k) (runS E.P E.nt ops is ws st)) (h : (runL E.P E.nt ops is ws [] st).map (fun r => r.2) = some (cs, [])) : WT E (.inRegion ops rest0 :: k) st :=
  WT.rN is rest ws _ cs hs (runS_spec h) hc hw
theorem WT.uC {ops : Array Oper} {i : Nat} {rest : List Nat} {o : Oper} (brw : Bool) (sel : List Sel) {f : FuncId} {ys : List AV} {Hc : List Ob} {r : AV} {Hc' : List Ob} (hspec : Spec E.P f ys Hc r Hc')
    (ho : ops[i]? = some o) (h : WT E (.inRegion ops rest :: k) ((callPost E.nt st o brw sel r Hc').getD st)) (hh : (guardOk ops st.T o, callPre E.P st o brw sel, (callPost E.nt st o brw sel r Hc').isSome) = (some true, some (f, ys, Hc), true)) :
    WT E (.inRegion ops (i :: rest) :: k) st := by
  simp only [Prod.mk.injEq] at hh
  exact WT.call brw sel ho hh.1 hh.2.1 hspec (getD_some hh.2.2 st) h
theorem WT.uO {ops : Array Oper} {i : Nat} {rest : List Nat} {o : Oper} (xs : List Operand) (brw : Bool) (sel : List Sel) {ys : List AV} {Hc : List Ob} {r : AV} {Hc' : List Ob} (hspec : OSpec E.P o xs ys Hc r Hc')
    (ho : ops[i]? = some o) (h : WT E (.inRegion ops rest :: k) ((callPost E.nt st o brw sel r Hc').getD st)) (hh : (guardOk ops st.T o, operPre st xs brw sel, (callPost E.nt st o brw sel r Hc').isSome) = (some true, some (ys, Hc), true)) :
    WT E (.inRegion ops (i :: rest) :: k) st := by
  simp only [Prod.mk.injEq] at hh
  exact WT.oper xs brw sel ho hh.1 hh.2.1 hspec (getD_some hh.2.2 st) h
theorem WT.uS (ss : List Sop) (hw : WT E k ((retell E.n0 ss st).getD st)) (h : (retell E.n0 ss st).isSome = true) : WT E k st := WT.sops ss (getD_some h st) hw
end
section
variable {E : Env} {k : List Item} {ops : Array Oper} {n : Nat} {pr pr' wt : List Rd} {fuel : Nat} {listed : Array Bool} {st : St}
theorem WA.putB (ds : List Nat) {e b : Bool} (he : e = b) (h : WA E k ops n pr wt fuel listed (putB ds b st)) (hb : ds.map (gB st.T) = ds.map fun _ => some e) : WA E k ops n pr wt fuel listed st :=
  fun wr X M Z a w hr hy => h wr X M Z a w (hr.putB he hb) hy
theorem WO.uC {i : Nat} {o : Oper} (brw : Bool) (sel : List Sel) (pr' : List Rd) {f : FuncId} {ys : List AV} {Hc : List Ob} {r : AV} {Hc' : List Ob} (hspec : Spec E.P f ys Hc r Hc')
    (ho : ops[i]? = some o) (h : WA E k ops n pr' wt fuel (listed.setIfInBounds i true) ((callPost E.nt st o brw sel r Hc').getD st))
    (hh : (guardOk ops st.T o, callPre E.P st o brw sel, (callPost E.nt st o brw sel r Hc').isSome, (sel.all (fun s => ownRd wt n (selRd st.H s) && okRd st.H (selRd st.H s)) && (pr'.all (fun r => decide (r ∈ pr) && prOk n sel r) && wt.all (fun r => belowRd n r && notZone r)))) = (some true, some (f, ys, Hc), true, true)) : WO E k ops n pr wt fuel listed st i := by
  simp only [Prod.mk.injEq] at hh
  exact WO.call brw sel pr' ho hh.1 hh.2.1 hspec (getD_some hh.2.2.1 st) hh.2.2.2 h
theorem WO.uO {i : Nat} {o : Oper} (xs : List Operand) (brw : Bool) (sel : List Sel) (pr' : List Rd) {ys : List AV} {Hc : List Ob} {r : AV} {Hc' : List Ob} (hspec : OSpec E.P o xs ys Hc r Hc')
    (ho : ops[i]? = some o) (h : WA E k ops n pr' wt fuel (listed.setIfInBounds i true) ((callPost E.nt st o brw sel r Hc').getD st))
    (hh : (guardOk ops st.T o, operPre st xs brw sel, (callPost E.nt st o brw sel r Hc').isSome, (sel.all (fun s => ownRd wt n (selRd st.H s) && okRd st.H (selRd st.H s)) && (pr'.all (fun r => decide (r ∈ pr) && prOk n sel r) && wt.all (fun r => belowRd n r && notZone r)))) = (some true, some (ys, Hc), true, true)) : WO E k ops n pr wt fuel listed st i := by
  simp only [Prod.mk.injEq] at hh
  exact WO.oper xs brw sel pr' ho hh.1 hh.2.1 hspec (getD_some hh.2.2.1 st) hh.2.2.2 h
theorem WO.uS {i : Nat} (ss : List SopA) (hw : WO E k ops n pr wt fuel listed ((retellA n ss st).getD st) i)
    (hh : ((pr.all (belowRd n) && wt.all (belowRd n)), (ss.all SopA.calm || (pr.all notZone && wt.all notZone)), (retellA n ss st).isSome) = (true, true, true)) : WO E k ops n pr wt fuel listed st i := by
  simp only [Prod.mk.injEq] at hh
  exact WO.sops ss _ hh.1 hh.2.1 (getD_some hh.2.2 st) hw
def memS (P : Program) (nt : Nat) (ops : Array Oper) (n : Nat) (wt : List Rd) (ws : List Wit) (st : St) (i : Nat) : St :=
  match memStep P nt ops n wt ws st i with
  | some r => r.1
  | none => st
theorem WO.uM {i : Nat} (ws : List Wit) (cs : List Prop) (hc : AllP cs) (hw : WA E k ops n pr wt fuel (listed.setIfInBounds i true) (memS E.P E.nt ops n wt ws st i))
    (hh : ((memStep E.P E.nt ops n wt ws st i).map (fun r => r.2), (pr.all (belowRd n) && wt.all (belowRd n))) = (some (cs, []), true)) : WO E k ops n pr wt fuel listed st i := by
  simp only [Prod.mk.injEq] at hh
  obtain ⟨h, hb⟩ := hh
  have hr : memStep E.P E.nt ops n wt ws st i = some (memS E.P E.nt ops n wt ws st i, cs, []) := by
    unfold memS
    cases hr : memStep E.P E.nt ops n wt ws st i with
    | none => rw [hr] at h; cases h
    | some r =>
      rw [hr] at h
      obtain ⟨r1, r2, r3⟩ := r
      simp only [Option.map_some, Option.some.injEq, Prod.mk.injEq] at h
      obtain ⟨rfl, rfl⟩ := h
      rfl
  exact memStep_spec hr hc hb hw
def runTo (P : Program) (nt n0 : Nat) (ops : Array Oper) (n : Nat) (pr wt : List Rd) (m fuel : Nat) (listed : Array Bool) (ws : List Wit) (sel keep : List Nat) (st : St) : Option (Nat × Array Bool × St × List Prop × List Wit) :=
  match runA P nt ops n pr wt m fuel listed ws [] st with
  | some (fuel', l', st1, cs, ws') => match pickSt n0 sel keep st1 with
    | some st2 => some (fuel', l', st2, cs, ws')
    | none => none
  | none => none
theorem WA.to {fuel' : Nat} {listed' : Array Bool} {st' : St} (m : Nat) (ws : List Wit) (cs : List Prop) (sel keep : List Nat) (A : WA E k ops n pr' wt fuel' listed' st')
    (hc : AllP cs) (hh : (Region.noSelect ops, (pr.all (belowRd n) && wt.all (belowRd n)), sel.take n, (pr'.all fun r => decide (r ∈ pr)), runTo E.P E.nt E.n0 ops n pr wt m fuel listed ws sel keep st) = (true, true, List.range n, true, some (fuel', listed', st', cs, []))) : WA E k ops n pr wt fuel listed st := by
  simp only [Prod.mk.injEq] at hh
  obtain ⟨hs, hb, hn, hp, h⟩ := hh
  unfold runTo at h
  split at h
  · rename_i f1 l1 st1 cs1 ws1 h1
    split at h
    · rename_i st2 h2
      simp only [Option.some.injEq, Prod.mk.injEq] at h
      obtain ⟨rfl, rfl, rfl, rfl, rfl⟩ := h
      exact WA.run hs hb m h1 hc (WA.pick sel keep h2 hn hb (WA.less hp A))
    · cases h
  · cases h
def runAS (P : Program) (nt : Nat) (ops : Array Oper) (n : Nat) (pr wt : List Rd) (m fuel : Nat) (listed : Array Bool) (ws : List Wit) (st : St) : St :=
  match runA P nt ops n pr wt m fuel listed ws [] st with
  | some r => r.2.2.1
  | none => st
theorem WA.uR {fuel' : Nat} {listed' : Array Bool} (m : Nat) (ws : List Wit) (cs : List Prop) (hc : AllP cs) (hw : WA E k ops n pr wt fuel' listed' (runAS E.P E.nt ops n pr wt m fuel listed ws st))
    (hh : (Region.noSelect ops, (pr.all (belowRd n) && wt.all (belowRd n)), (runA E.P E.nt ops n pr wt m fuel listed ws [] st).map (fun r => (r.1, r.2.1, r.2.2.2))) = (true, true, some (fuel', listed', cs, []))) : WA E k ops n pr wt fuel listed st := by
  simp only [Prod.mk.injEq] at hh
  obtain ⟨hs, hb, h⟩ := hh
  have hr : runA E.P E.nt ops n pr wt m fuel listed ws [] st = some (fuel', listed', runAS E.P E.nt ops n pr wt m fuel listed ws st, cs, []) := by
    unfold runAS
    cases hr : runA E.P E.nt ops n pr wt m fuel listed ws [] st with
    | none => rw [hr] at h; cases h
    | some r =>
      rw [hr] at h
      obtain ⟨r1, r2, r3, r4, r5⟩ := r
      simp only [Option.map_some, Option.some.injEq, Prod.mk.injEq] at h
      obtain ⟨rfl, rfl, rfl, rfl⟩ := h
      rfl
  exact WA.run hs hb m hr hc hw
def runD (P : Program) (nt n0 : Nat) (ops : Array Oper) (n : Nat) (pr wt : List Rd) (m fuel : Nat) (listed : Array Bool) (ws : List Wit) (pk : Option (List Nat × List Nat)) (st : St) : Option (Bool × St × List Prop × List Wit) :=
  match runA P nt ops n pr wt m fuel listed ws [] st with
  | some (_, l', st1, cs, ws') => match keepSt n0 pk st1 with
    | some st2 => some ((Region.ready .any ops l').isEmpty, st2, cs, ws')
    | none => none
  | none => none
theorem WA.fin (m : Nat) (ws : List Wit) (cs : List Prop) (pk : Option (List Nat × List Nat)) (st' : St) (hc : AllP cs) (hw : WT E k st')
    (hh : (Region.noSelect ops, (pr.all (belowRd n) && wt.all (belowRd n)), runD E.P E.nt E.n0 ops n pr wt m fuel listed ws pk st) = (true, true, some (true, st', cs, []))) : WA E k ops n pr wt fuel listed st := by
  simp only [Prod.mk.injEq] at hh
  obtain ⟨hs, hb, h⟩ := hh
  unfold runD at h
  split at h
  · rename_i f1 l1 st1 cs1 ws1 h1
    split at h
    · rename_i st2 h2
      simp only [Option.some.injEq, Prod.mk.injEq] at h
      obtain ⟨hr, rfl, rfl, rfl⟩ := h
      exact WA.run hs hb m h1 hc (WA.doneK pk _ (List.isEmpty_iff.1 hr) h2 hw)
    · cases h
  · cases h
theorem WA.xD {pr : List Rd} (pk : Option (List Nat × List Nat)) (st' : St) (hw : WT E k st') (hh : (Region.ready .any ops listed, keepSt E.n0 pk st) = ([], some st')) : WA E k ops n pr wt fuel listed st := by
  simp only [Prod.mk.injEq] at hh
  exact WA.doneK pk st' hh.1 hh.2 hw
theorem WA.x1 (i : Nat) (h : WO E k ops n pr wt fuel listed st i) (hrd : Region.ready .any ops listed = [i]) : WA E k ops n pr wt (fuel + 1) listed st := WA.one i hrd h
theorem WA.xf (rs : List Nat) (hne : rs ≠ []) (h : ∀ i, i ∈ rs → WO E k ops n pr wt fuel listed st i) (hrd : Region.ready .any ops listed = rs) : WA E k ops n pr wt (fuel + 1) listed st := WA.fork rs hrd hne h
theorem WA.xs {id : Nat} (pr wt : List Rd) (h : WA E k ops st.H.length pr wt ops.size (Array.replicate ops.size false) st)
    (hh : (E.P.follows .mixedOrders, (pr.all fun r => wt.all fun r' => apartRd r r'), (pr.all fun r => okRd st.H r), (wt.all fun r => okRd st.H r && notZone r)) = (true, true, true, true)) : WT E (.code (.region id ops true) :: k) st := by
  simp only [Prod.mk.injEq] at hh
  exact WA.start pr wt hh.1 hh.2.1 hh.2.2.1 hh.2.2.2 h
end
section
variable {E : Env} {k : List Item} {st : St}
theorem WT.xR {fn : Func} {r : AV} {H' : List Ob} (hE : Ends E fn r H') (ss : List Sop) (sel : List Nat) (h : retAll E.P E.n0 fn ss sel st = some (r, H')) : WT E (.code .ret :: k) st := WT.ret3 hE ss sel h
theorem WT.xL {c : Code} {α β : Type} (S : α → St) {l : Nat → α → Option β} {r : β} (ss : List Sop) (x0 : α) (n : Nat) (hl : l n x0 = some r) (h0 : ∀ x, l 0 x = none)
    (hs : ∀ n x, (∀ x', l n x' = some r → WT E (.inLoop c :: k) (S x')) → l (n + 1) x = some r → WT E (.code c :: .inLoop c :: k) (S x)) (hr : retell E.n0 ss st = some (S x0)) :
    WT E (.code (.loop c) :: k) st := WT.loopsA S ss x0 n hl h0 hr hs
theorem WT.xS (ss : List Sop) {st' : St} (hw : WT E k st') (h : retell E.n0 ss st = some st') : WT E k st := WT.sops ss h hw
end
end Go.Proofs.YtmbbapeiikifgaaGreatDoor
