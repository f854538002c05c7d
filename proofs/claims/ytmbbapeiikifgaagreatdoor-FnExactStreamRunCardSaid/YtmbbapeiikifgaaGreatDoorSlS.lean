/- A call: its rules. -/
import Derived.Test.YtmbbapeiikifgaaGreatDoorSlR
namespace Go.Proofs.YtmbbapeiikifgaaGreatDoor
open Go
def opds (T : List (Nat × AV)) : List Operand → Option (List PV)
  | [] => some []
  | x :: xs => match opd T x, opds T xs with
    | some (.p v), some r => some (v :: r)
    | _, _ => none
def callArgs (st : St) (c : Call) : Option (FuncId × List PV) :=
  match c.callee with
  | .value x => match opd st.T x, opds st.T c.args.toList with
    | some (.p (.c (.fn f caps))), some as => some (f, as ++ caps.map (fun q => .c (.ptr q.1 q.2)))
    | _, _ => none
  | _ => none
def toPs (brw : Bool) (sel : List Sel) (H : List Ob) : List PV → Option (List AV)
  | [] => some []
  | x :: xs => match toP brw sel H x, toPs brw sel H xs with
    | some v, some r => some (.p v :: r)
    | _, _ => none
def callable (P : Program) (f : FuncId) : Bool :=
  match P.funcs[f]? with
  | some fn => fn.body.isSome && !(fn.name == "runtime.NumGoroutine")
  | none => false
def callPre (P : Program) (st : St) (o : Oper) (brw : Bool) (sel : List Sel) : Option (FuncId × List AV × List Ob) :=
  match o.op with
  | .call c => match callArgs st c with
    | some (f, as) => if callable P f && (decide (sel.map Sel.o).Nodup && sel.all (fun s => st.free s.o)) then
        match toPs brw sel st.H as, toH brw sel st.H sel with
        | some ys, some Hc => some (f, ys, Hc)
        | _, _ => none
      else none
    | none => none
  | _ => none
def callPost (nt : Nat) (st : St) (o : Oper) (brw : Bool) (sel : List Sel) (r : AV) (Hc' : List Ob) : Option St :=
  match wb brw sel st.H.length sel Hc' st.H, bcA brw sel st.H.length r with
  | some H'', some r'' => match o.dst with
    | some d => if d < nt then some ⟨tput st.T d r'', H''⟩ else none
    | none => some ⟨st.T, H''⟩
  | _, _ => none
theorem callFunc_run {P : Program} {f : FuncId} (h : callable P f = true) (args : Array Value) (w : World) : (callFunc f args).run P w = .ok (.enter f args) w := by
  unfold callable at h
  split at h
  · rename_i fn hfn
    simp only [Bool.and_eq_true, Bool.not_eq_true'] at h
    have hb : fn.body.isNone = false := by
      cases hbd : fn.body with
      | none => rw [hbd] at h; simp at h
      | some b => rfl
    have hn : fn.name ≠ "runtime.NumGoroutine" := by simpa using h.2
    have hb' : fn.body ≠ none := by intro e; rw [e] at hb; cases hb
    simp [callFunc, program, Sem.run, hfn, hn, hb']
  · cases h
section
variable {E : Env} {st : St} {M : List Pl} {Z : CS} {a : Act} {w : World} {o : Oper}
theorem opds_rel (hr : Rel E st M Z a w) : ∀ {xs : List Operand} {ys : List PV}, opds st.T xs = some ys → PsRel M Z w ys (xs.map a.eval)
  | [], ys, h => by simp only [opds, Option.some.injEq] at h; subst h; rfl
  | x :: xs, ys, h => by
    simp only [opds] at h
    split at h
    · rename_i v r h1 h2
      cases h
      exact ⟨a.eval x, xs.map a.eval, rfl, opd_rel hr h1, opds_rel hr h2⟩
    · cases h
theorem PsRel.append {cs ds : List PV} {vs us : List Value} (h : PsRel M Z w cs vs) (h' : PsRel M Z w ds us) : PsRel M Z w (cs ++ ds) (vs ++ us) := by
  induction cs generalizing vs with
  | nil => simp [PsRel] at h; subst h; exact h'
  | cons c cs ih => obtain ⟨v, r, rfl, h1, h2⟩ := h; exact ⟨v, r ++ us, rfl, h1, ih h2⟩
theorem caps_ps : ∀ {caps : List (Nat × Nat)} {vs : List Value}, CapsRel M caps vs → PsRel M Z w (caps.map (fun q => .c (.ptr q.1 q.2))) vs
  | [], _, h => h
  | (_, j) :: _, _, ⟨p, b, f, r', hv, hp, ha, hr⟩ => ⟨.pointer (some ⟨b, f + j, none⟩), r', hv, ⟨p, b, f, hp, ha, rfl⟩, caps_ps hr⟩
theorem toP_rel {brw : Bool} {sel : List Sel} (hH : HRel st.H M Z w) {v v' : PV} {u : Value} (h : toP brw sel st.H v = some v') (hr : PRel M Z w v u) : PRel (selM M sel) (selZ brw M Z sel) w v' u := by
  cases v with
  | c c =>
    simp only [toP, Option.map_eq_some_iff] at h
    obtain ⟨c', hc', rfl⟩ := h
    exact toC_rel hH hc' hr
  | agg cs =>
    simp only [toP, Option.map_eq_some_iff] at h
    obtain ⟨cs', hcs', rfl⟩ := h
    obtain ⟨vs, hv, hvs⟩ := hr
    exact ⟨vs, hv, toCs_rel hH hcs' hvs⟩
theorem toPs_rel {brw : Bool} {sel : List Sel} (hH : HRel st.H M Z w) : ∀ {xs : List PV} {ys : List AV} {vs : List Value}, toPs brw sel st.H xs = some ys → PsRel M Z w xs vs → AsRel (selM M sel) (selZ brw M Z sel) w ys vs
  | [], ys, vs, h, hr => by simp only [toPs, Option.some.injEq] at h; subst h; exact hr
  | x :: xs, ys, vs, h, ⟨v, r, hv, h1, h2⟩ => by
    simp only [toPs] at h
    split at h
    · rename_i v' r' e1 e2
      cases h
      exact ⟨v, r, hv, toP_rel hH e1 h1, toPs_rel hH e2 h2⟩
    · cases h
theorem call_wp (hr : Rel E st M Z a w) {brw : Bool} {sel : List Sel} {f : FuncId} {ys : List AV} {Hc : List Ob} (hpre : callPre E.P st o brw sel = some (f, ys, Hc))
    {r : AV} {Hc' : List Ob} (hspec : Spec E.P f ys Hc r Hc') {st' : St} (hpost : callPost E.nt st o brw sel r Hc' = some st') {K : Act → World → Prop} {Q : Exit → Act → World → Prop}
    (hK : ∀ v M' Z' a' w', Fin (selM M sel) (selZ brw M Z sel) w r Hc' v M' Z' w' → Bk E st M Z w brw sel M' Z' → toH brw sel st.H sel = some Hc → (sel.map Sel.o).Nodup →
      Rel E st' (bM M sel M') (bZ brw M Z sel Z') a' w' → K a' w') : o.wp E.P a w K Q := by
  unfold callPre at hpre
  split at hpre
  · rename_i c ho
    split at hpre
    · rename_i f' as hca
      split at hpre
      · rename_i hok
        split at hpre
        · rename_i ys' Hc0 hys hHc
          simp only [Option.some.injEq, Prod.mk.injEq] at hpre
          obtain ⟨rfl, rfl, rfl⟩ := hpre
          simp only [Bool.and_eq_true, decide_eq_true_eq] at hok
          obtain ⟨hcal, hd, hfree⟩ := hok
          unfold callArgs at hca
          split at hca
          · rename_i x hcallee
            split at hca
            · rename_i f1 caps as1 hx has
              simp only [Option.some.injEq, Prod.mk.injEq] at hca
              obtain ⟨rfl, rfl⟩ := hca
              obtain ⟨cvs, hxv, hcaps⟩ := opd_rel hr hx
              have hrun : (execOp a.eval o).run E.P w = .ok (.enter f1 ((c.args.toList.map a.eval ++ cvs).toArray)) w := by
                simp only [execOp, ho, resolve, hcallee]
                rw [show a.eval x = .func (.func f1) #[] cvs.toArray from hxv]
                have e : (#[] ++ Array.map a.eval c.args ++ cvs.toArray : Array Value) = (c.args.toList.map a.eval ++ cvs).toArray := by apply Array.ext'; simp
                rw [← e]
                exact callFunc_run hcal _ w
              unfold Oper.wp
              rw [hrun]
              simp only [Oper.upon]
              have hargs : AsRel (selM M sel) (selZ brw M Z sel) w ys' (c.args.toList.map a.eval ++ cvs) := toPs_rel hr.hrel hys ((opds_rel hr has).append (caps_ps hcaps))
              have hC := hspec w (selM M sel) (selZ brw M Z sel) _ (hr.lend hd hHc) hargs
              intro cs
              obtain ⟨e, w', fr, ⟨v, M', Z', rfl, hfin⟩, hrest⟩ := hC cs
              refine ⟨_, w', fr, ?_, hrest⟩
              dsimp only
              unfold callPost at hpost
              split at hpost
              · rename_i H'' r'' hwb hbc
                obtain ⟨hrel, hres⟩ := hr.back hd (fun s hs => List.all_eq_true.1 hfree s hs) hHc hfin hwb hbc
                have B := bk hr hd hHc hfin
                split at hpost
                · rename_i d hdst
                  split at hpost
                  · rename_i hlt
                    cases hpost
                    rw [hdst]
                    exact hK v M' Z' _ w' hfin B hHc hd (hrel.put hlt hres)
                  · cases hpost
                · rename_i hdst
                  cases hpost
                  rw [hdst]
                  exact hK v M' Z' _ w' hfin B hHc hd hrel
              · cases hpost
            · cases hca
          · cases hca
        · cases hpre
      · cases hpre
    · cases hpre
  · cases hpre
end
theorem WT.call {E : Env} {k : List Item} {ops : Array Oper} {i : Nat} {rest : List Nat} {st st' : St} {o : Oper} (brw : Bool) (sel : List Sel) {f : FuncId} {ys : List AV} {Hc : List Ob} {r : AV} {Hc' : List Ob}
    (ho : ops[i]? = some o) (hg : guardOk ops st.T o = some true) (hpre : callPre E.P st o brw sel = some (f, ys, Hc)) (hspec : Spec E.P f ys Hc r Hc')
    (hpost : callPost E.nt st o brw sel r Hc' = some st') (h : WT E (.inRegion ops rest :: k) st') : WT E (.inRegion ops (i :: rest) :: k) st := by
  intro M Z a w hr cs
  refine .op ho (guardOk_spec hr hg) (call_wp hr hpre hspec hpost fun v M' Z' a' w' _ _ _ _ hr' => ?_)
  exact h _ _ a' w' hr' cs
def selRd (H : List Ob) : Sel → Rd
  | .whole o => match H[o]? with
    | some (.box cs) => .cells o 0 cs.length
    | some (.row _ _) => .dep (some o)
    | some (.mp _ _ _) => .dep (some o)
    | _ => .no
  | .win o j n => .cells o j n
def prOk (n : Nat) (sel : List Sel) (r : Rd) : Bool :=
  match r.who with
  | some (some o) => decide (o < n) && !(touched sel o)
  | some none => false
  | none => true
section
variable {E : Env} {k : List Item} {ops : Array Oper} {n : Nat} {pr pr' wt : List Rd} {fuel : Nat} {listed : Array Bool} {st : St}
theorem selRd_set {M : List Pl} {Z : CS} {a : Act} {w : World} (hr : Rel E st M Z a w) {brw : Bool} {sel : List Sel} {Hc : List Ob} (hH : toH brw sel st.H sel = some Hc) {i : Nat} {s : Sel} (hs : sel[i]? = some s) {x y : Nat} (h : (selPl M s).S x y) :
    (selRd st.H s).set M Z x y := by
  obtain ⟨p, hp, _, hc⟩ := sel_pl hr hH hs
  rcases hc with ⟨o, rfl, e⟩ | ⟨o, j, m, b, f, cs, rfl, hHo, hn, ha, e, hS⟩
  · rw [e] at h
    simp only [Sel.o] at hp
    have hlt : o < st.H.length := by rw [← hr.ml]; exact (List.getElem?_eq_some_iff.1 hp).1
    have hob := hr.ob o _ p (List.getElem?_eq_getElem hlt) hp
    simp only [selRd, List.getElem?_eq_getElem hlt]
    generalize st.H[o] = ob at hob
    cases ob with
    | box cs =>
      obtain ⟨b, f, ha, hS, _⟩ := hob
      obtain ⟨h1, h2, h3⟩ := (hS x y).1 h
      exact ⟨p, b, f, hp, ha, h1, by omega, by omega⟩
    | row t xs => exact ⟨p, hp, h⟩
    | mp t es pd => exact ⟨p, hp, h⟩
    | dead => exact hob x y h
  · rw [e] at h
    exact ⟨p, b, f, hp, ha, h⟩
theorem WO.via {i : Nat} {st' : St} {o : Oper} (brw : Bool) (sel : List Sel) (pr' : List Rd) {Hc : List Ob} {r : AV} {Hc' : List Ob}
    (ho : ops[i]? = some o) (hg : guardOk ops st.T o = some true)
    (hwp : ∀ M Z a w, Rel E st M Z a w → ∀ (K : Act → World → Prop) (Q : Exit → Act → World → Prop), (∀ v M' Z' a' w', Fin (selM M sel) (selZ brw M Z sel) w r Hc' v M' Z' w' → Bk E st M Z w brw sel M' Z' → toH brw sel st.H sel = some Hc → (sel.map Sel.o).Nodup →
      Rel E st' (bM M sel M') (bZ brw M Z sel Z') a' w' → K a' w') → o.wp E.P a w K Q)
    (hown : (sel.all (fun s => ownRd wt n (selRd st.H s) && okRd st.H (selRd st.H s)) && (pr'.all (fun r => decide (r ∈ pr) && prOk n sel r) && wt.all (fun r => belowRd n r && notZone r))) = true)
    (h : WA E k ops n pr' wt fuel (listed.setIfInBounds i true) st') : WO E k ops n pr wt fuel listed st i := by
  simp only [Bool.and_eq_true] at hown
  obtain ⟨hsel, hpr, hwt⟩ := hown
  refine .wp ho hg fun wr X M Z a w hr hy => ?_
  refine hwp M Z a w hr _ _ fun v M' Z' a' w' hfin B hH hd hr' => ?_
  have hX : ∀ x y, allS (selM M sel) x y → X x y ∨ fresh wr x y := by
    rintro x y ⟨j, p, hp, hs⟩
    obtain ⟨s, hs', rfl⟩ := selM_inv hp
    have hx := List.all_eq_true.1 hsel s (List.mem_of_getElem? hs')
    simp only [Bool.and_eq_true] at hx
    exact ownRd_spec hy hx.1 (fun k j hs => rd_own hr hx.2 hs) x y (selRd_set hr hH hs' hs)
  have hfr : ∀ x y, fresh w x y → fresh wr x y := fun x y hf => Nat.le_trans hy.keep.size hf
  have hlt : ∀ {i : Nat} {s : Sel}, sel[i]? = some s → s.o < M.length := fun {i s} hs => by
    obtain ⟨p, hp, _⟩ := sel_pl hr hH hs
    exact (List.getElem?_eq_some_iff.1 hp).1
  have hunt : ∀ o, touched sel o = false → ∀ s, s ∈ sel → s.o ≠ o := fun o ho s hs e => by
    simp only [touched, List.any_eq_false] at ho
    exact ho s hs (by simp [e])
  have htou : ∀ o, touched sel o = true → o ∈ sel.map Sel.o := fun o ho => by
    simp only [touched, List.any_eq_true, beq_iff_eq] at ho
    obtain ⟨s, hs, e⟩ := ho
    exact List.mem_map.2 ⟨s, hs, e⟩
  have hpl : ∀ (o : Nat) (p : Pl) x y, (bM M sel M')[o]? = some p → p.S x y → (∃ q, M[o]? = some q ∧ q.S x y) ∨ X x y ∨ fresh wr x y := by
    intro o p x y hp hs
    have hcls : (o ∈ sel.map Sel.o ∨ M.length ≤ o) → (∃ q, M[o]? = some q ∧ q.S x y) ∨ X x y ∨ fresh wr x y := fun hi => by
      rcases B.cls o p hi hp with ⟨i0, hb, hp0⟩ | ⟨i0, j0, n0, hs', hp0⟩
      · rcases hfin.s i0 p x y hp0 hs with h1 | h1
        · exact .inr (hX x y h1)
        · exact .inr (.inr (hfr x y h1))
      · exact .inl ⟨p, hp0, hs⟩
    rcases Nat.lt_or_ge o M.length with hl | hl
    · cases ht : touched sel o with
      | false => rw [B.m1 o hl (hunt o ht)] at hp; exact .inl ⟨p, hp, hs⟩
      | true => exact hcls (.inl (htou o ht))
    · exact hcls (.inr hl)
  have hav : ∀ (o : Nat) (p : Pl), o < M.length → (bM M sel M')[o]? = some p → ∃ q, M[o]? = some q ∧ q.av = p.av := by
    intro o p hl hp
    cases ht : touched sel o with
    | false => rw [B.m1 o hl (hunt o ht)] at hp; exact ⟨p, hp, rfl⟩
    | true =>
      rcases B.cls o p (.inl (htou o ht)) hp with ⟨i0, hb, hp0⟩ | ⟨i0, j0, n0, hs', hp0⟩
      · unfold bixW at hb
        split at hb
        · rename_i o' hs'
          cases hb
          obtain ⟨p', hp', e1, _⟩ := hfin.pl i0 _ (selM_get (M := M) hs')
          rw [hp0] at hp'; cases hp'
          exact ⟨M[o]'hl, by simp [hl], by rw [e1]; simp [selPl, hl]⟩
        · cases hb
        · simp only [Option.some.injEq] at hb; omega
      · exact ⟨p, hp0, rfl⟩
  have hset : ∀ rd : Rd, prOk n sel rd = true → ∀ x y, rd.set (bM M sel M') (bZ brw M Z sel Z') x y → rd.set M Z x y := by
    intro rd hrd x y hs
    have hplace : ∀ o, (decide (o < n) && !(touched sel o)) = true → (bM M sel M')[o]? = M[o]? := fun o hc => by
      simp only [Bool.and_eq_true, decide_eq_true_eq, Bool.not_eq_true'] at hc
      exact B.m1 o (Nat.lt_of_lt_of_le hc.1 hy.len) (hunt o hc.2)
    cases rd with
    | no => exact hs
    | cells o j0 m =>
      obtain ⟨p, b, f, hp, hh⟩ := hs
      rw [hplace o hrd] at hp
      exact ⟨p, b, f, hp, hh⟩
    | dep d =>
      cases d with
      | none => simp [prOk, Rd.who] at hrd
      | some o =>
        obtain ⟨p, hp, hh⟩ := hs
        rw [hplace o hrd] at hp
        exact ⟨p, hp, hh⟩
  have hy' : Hy wr X n pr' wt (bM M sel M') (bZ brw M Z sel Z') w' := by
    refine ⟨hy.keep.trans hfin.kp hX, fun rd hrd => ?_, fun rd hrd x y hs => ?_, fun o p x y ho hp hs => ?_, ?_⟩
    · have := List.all_eq_true.1 hpr rd hrd
      simp only [Bool.and_eq_true, decide_eq_true_eq] at this
      have hpp := hy.pr rd this.1
      exact ⟨fun x y hs => hpp.1 x y (hset rd this.2 x y hs), fun x y hx hs => hpp.2 x y hx (hset rd this.2 x y hs)⟩
    · have hw := List.all_eq_true.1 hwt rd hrd
      simp only [Bool.and_eq_true] at hw
      have hbel : ∀ o, rd.who = some (some o) → o < M.length := fun o ho => by
        have := hw.1
        simp only [belowRd, ho, decide_eq_true_eq] at this
        exact Nat.lt_of_lt_of_le this hy.len
      cases rd with
      | no => exact hs.elim
      | cells o j0 m =>
        obtain ⟨p, b, f, hp, ha, hh⟩ := hs
        obtain ⟨q, hq, e⟩ := hav o p (hbel o rfl) hp
        exact hy.wt _ hrd x y ⟨q, b, f, hq, e.trans ha, hh⟩
      | dep d =>
        cases d with
        | none => simp [notZone] at hw
        | some o =>
          obtain ⟨p, hp, hh⟩ := hs
          rcases hpl o p x y hp hh with ⟨q, hq, hqs⟩ | h1
          · exact hy.wt _ hrd x y ⟨q, hq, hqs⟩
          · exact h1
    · rcases hpl o p x y hp hs with ⟨q, hq, hqs⟩ | h1
      · exact hy.new o q x y ho hq hqs
      · exact h1
    · rw [bM_len]; have := hy.len; omega
  exact ⟨hy'.keep, h wr X _ _ a' w' hr' hy'⟩
theorem WO.call {i : Nat} {st' : St} {o : Oper} (brw : Bool) (sel : List Sel) (pr' : List Rd) {f : FuncId} {ys : List AV} {Hc : List Ob} {r : AV} {Hc' : List Ob}
    (ho : ops[i]? = some o) (hg : guardOk ops st.T o = some true) (hpre : callPre E.P st o brw sel = some (f, ys, Hc)) (hspec : Spec E.P f ys Hc r Hc')
    (hpost : callPost E.nt st o brw sel r Hc' = some st')
    (hown : (sel.all (fun s => ownRd wt n (selRd st.H s) && okRd st.H (selRd st.H s)) && (pr'.all (fun r => decide (r ∈ pr) && prOk n sel r) && wt.all (fun r => belowRd n r && notZone r))) = true)
    (h : WA E k ops n pr' wt fuel (listed.setIfInBounds i true) st') : WO E k ops n pr wt fuel listed st i :=
  .via brw sel pr' ho hg (fun _ _ _ _ hr _ _ hK => call_wp hr hpre hspec hpost hK) hown h
end
end Go.Proofs.YtmbbapeiikifgaaGreatDoor
