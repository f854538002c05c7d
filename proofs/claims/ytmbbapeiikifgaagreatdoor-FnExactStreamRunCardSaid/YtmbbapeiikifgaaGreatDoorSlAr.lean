/- Operations told as calls are told: with chunks that are handed over; append. -/
import Derived.Test.YtmbbapeiikifgaaGreatDoorSlAq
import Derived.Test.YtmbbapeiikifgaaGreatDoorSlV
import Derived.Laws.Cover3
namespace Go.Proofs.YtmbbapeiikifgaaGreatDoor
open Go
def OSpec (P : Program) (o : Oper) (xs : List Operand) (args : List AV) (H : List Ob) (r : AV) (H' : List Ob) : Prop :=
  ∀ w M Z (ρ : Operand → Value), HRel H M Z w → AsRel M Z w args (xs.map ρ) → ∃ n v M' Z' w', (execOp ρ o).run P w = .ok n w' ∧ (n = .value v ∨ (n = .skip ∧ v = undef)) ∧ Fin M Z w r H' v M' Z' w'
def operPre (st : St) (xs : List Operand) (brw : Bool) (sel : List Sel) : Option (List AV × List Ob) :=
  match opds st.T xs with
  | some as => if decide (sel.map Sel.o).Nodup && sel.all (fun s => st.free s.o) then
      match toPs brw sel st.H as, toH brw sel st.H sel with
      | some ys, some Hc => some (ys, Hc)
      | _, _ => none
    else none
  | none => none
section
variable {E : Env} {st : St} {M : List Pl} {Z : CS} {a : Act} {w : World} {o : Oper}
theorem oper_wp (hr : Rel E st M Z a w) {xs : List Operand} {brw : Bool} {sel : List Sel} {ys : List AV} {Hc : List Ob} (hpre : operPre st xs brw sel = some (ys, Hc))
    {r : AV} {Hc' : List Ob} (hspec : OSpec E.P o xs ys Hc r Hc') {st' : St} (hpost : callPost E.nt st o brw sel r Hc' = some st') {K : Act → World → Prop} {Q : Exit → Act → World → Prop}
    (hK : ∀ v M' Z' a' w', Fin (selM M sel) (selZ brw M Z sel) w r Hc' v M' Z' w' → Bk E st M Z w brw sel M' Z' → toH brw sel st.H sel = some Hc → (sel.map Sel.o).Nodup →
      Rel E st' (bM M sel M') (bZ brw M Z sel Z') a' w' → K a' w') : o.wp E.P a w K Q := by
  unfold operPre at hpre
  split at hpre
  · rename_i as has
    split at hpre
    · rename_i hok
      split at hpre
      · rename_i ys' Hc0 hys hHc
        simp only [Option.some.injEq, Prod.mk.injEq] at hpre
        obtain ⟨rfl, rfl⟩ := hpre
        simp only [Bool.and_eq_true, decide_eq_true_eq] at hok
        obtain ⟨hd, hfree⟩ := hok
        obtain ⟨n, v, M', Z', w', hrun, hn, hfin⟩ := hspec w (selM M sel) (selZ brw M Z sel) a.eval (hr.lend hd hHc) (toPs_rel hr.hrel hys (opds_rel hr has))
        have hK' : K (a.put o.dst v) w' := by
          unfold callPost at hpost
          split at hpost
          · rename_i H'' r'' hwb hbc
            obtain ⟨hrel, hres⟩ := hr.back hd (fun s hs => List.all_eq_true.1 hfree s hs) hHc hfin hwb hbc
            have B := bk hr hd hHc hfin
            split at hpost
            · rename_i d hdst
              split at hpost
              · rename_i hlt
                cases hpost
                rw [hdst]
                exact hK v M' Z' _ w' hfin B hHc hd (hrel.put hlt hres)
              · cases hpost
            · rename_i hdst
              cases hpost
              rw [hdst]
              exact hK v M' Z' _ w' hfin B hHc hd hrel
          · cases hpost
        unfold Oper.wp
        rw [hrun]
        rcases hn with rfl | ⟨rfl, rfl⟩
        · exact hK'
        · exact hK'
      · cases hpre
    · cases hpre
  · cases hpre
end
theorem WT.oper {E : Env} {k : List Item} {ops : Array Oper} {i : Nat} {rest : List Nat} {st st' : St} {o : Oper} (xs : List Operand) (brw : Bool) (sel : List Sel) {ys : List AV} {Hc : List Ob} {r : AV} {Hc' : List Ob}
    (ho : ops[i]? = some o) (hg : guardOk ops st.T o = some true) (hpre : operPre st xs brw sel = some (ys, Hc)) (hspec : OSpec E.P o xs ys Hc r Hc')
    (hpost : callPost E.nt st o brw sel r Hc' = some st') (h : WT E (.inRegion ops rest :: k) st') : WT E (.inRegion ops (i :: rest) :: k) st := by
  intro M Z a w hr cs
  refine .op ho (guardOk_spec hr hg) (oper_wp hr hpre hspec hpost fun v M' Z' a' w' _ _ _ _ hr' => ?_)
  exact h _ _ a' w' hr' cs
theorem WO.oper {E : Env} {k : List Item} {ops : Array Oper} {n : Nat} {pr wt : List Rd} {fuel : Nat} {listed : Array Bool} {i : Nat} {st st' : St} {o : Oper} (xs : List Operand) (brw : Bool) (sel : List Sel) (pr' : List Rd) {ys : List AV} {Hc : List Ob} {r : AV} {Hc' : List Ob}
    (ho : ops[i]? = some o) (hg : guardOk ops st.T o = some true) (hpre : operPre st xs brw sel = some (ys, Hc)) (hspec : OSpec E.P o xs ys Hc r Hc')
    (hpost : callPost E.nt st o brw sel r Hc' = some st')
    (hown : (sel.all (fun s => ownRd wt n (selRd st.H s) && okRd st.H (selRd st.H s)) && (pr'.all (fun r => decide (r ∈ pr) && prOk n sel r) && wt.all (fun r => belowRd n r && notZone r))) = true)
    (h : WA E k ops n pr' wt fuel (listed.setIfInBounds i true) st') : WO E k ops n pr wt fuel listed st i :=
  .via brw sel pr' ho hg (fun _ _ _ _ hr _ _ hK => oper_wp hr hpre hspec hpost hK) hown h
theorem two_get {α : Type} {x y z : α} {i : Nat} {u : α} (h : [x, y, z][i]? = some u) : (i = 0 ∧ u = x) ∨ (i = 1 ∧ u = y) ∨ (i = 2 ∧ u = z) := by
  match i, h with
  | 0, h => exact .inl ⟨rfl, by simpa using h.symm⟩
  | 1, h => exact .inr (.inl ⟨rfl, by simpa using h.symm⟩)
  | 2, h => exact .inr (.inr ⟨rfl, by simpa using h.symm⟩)
  | n + 3, h => simp at h
def elemInfo (P : Program) (t : TypeId) (d : Ty) : Bool :=
  match isSlice P t with
  | some e => match P.info? e with
    | some inf => match inf.zero with
      | some z => decide (inf.size = d.sz) && (decide (z.cells.size = inf.size) && decide (inf.bytes ≤ 128))
      | none => false
    | none => false
  | none => false
theorem elemInfo_spec {P : Program} {t : TypeId} {d : Ty} (h : elemInfo P t d = true) : ∃ e inf z, P.underlying t = some (.slice e) ∧ P.info? e = some inf ∧ inf.zero = some z ∧ inf.size = d.sz ∧ z.cells.size = inf.size ∧ inf.bytes ≤ 128 := by
  unfold elemInfo at h
  split at h
  · rename_i e he
    split at h
    · rename_i inf hi
      split at h
      · rename_i z hz
        simp only [Bool.and_eq_true, decide_eq_true_eq] at h
        exact ⟨e, inf, z, isSlice_spec he, hi, hz, h.1, h.2.1, h.2.2⟩
      · cases h
    · cases h
  · cases h
@[reducible] def isAppend (o : Oper) (s x : Operand) (t : TypeId) : Prop := o.op = .call { callee := .builtin .append, args := #[s, x], argTypes := #[t, t] }
theorem HRel.get {H : List Ob} {M : List Pl} {Z : CS} {w : World} (h : HRel H M Z w) {i : Nat} {o : Ob} (ho : H[i]? = some o) : ∃ p, M[i]? = some p ∧ ObRel M Z w o p := by
  have hlt := (List.getElem?_eq_some_iff.1 ho).1
  have : M[i]? = some (M[i]'(by rw [h.ml]; exact hlt)) := by simp [h.ml, hlt]
  exact ⟨_, this, h.ob i o _ ho this⟩
theorem append_rows {P : Program} {o : Oper} {s x : Operand} {t : TypeId} {d : Ty} (ho : isAppend o s x t) (hinf : elemInfo P t d = true) {xs ys : List d.T} (hlim : xs.length + ys.length ≤ 1099511627776) :
    OSpec P o [s, x] [.p (.c (.sl 0)), .p (.c (.sl 1))] [.row d xs, .row d ys] (.p (.c (.sl 2))) [.dead, .dead, .row d (xs ++ ys)] := by
  intro w M Z ρ hH hA
  obtain ⟨v1, r1, hv1, hs, v2, r2, hv2, hx, hr2⟩ := hA
  simp only [List.map_cons, List.map_nil, List.cons.injEq] at hv1
  obtain ⟨rfl, rfl⟩ := hv1
  simp only [List.cons.injEq] at hv2
  obtain ⟨rfl, rfl⟩ := hv2
  obtain ⟨p, hp, hrow⟩ := hH.get (i := 0) (o := .row d xs) rfl
  obtain ⟨q, hq, hrow2⟩ := hH.get (i := 1) (o := .row d ys) rfl
  obtain ⟨p1, hp1, hsv⟩ := hs
  rw [hp] at hp1; cases hp1
  obtain ⟨q1, hq1, hxv⟩ := hx
  rw [hq] at hq1; cases hq1
  have hM : M = [p, q] := by
    have hl := hH.ml
    match M, hl, hp, hq with
    | [a, b], _, hp, hq => simp at hp hq; rw [hp, hq]
  subst hM
  obtain ⟨e, inf, z, ht, hi, hz, hsz, hzs, hb⟩ := elemInfo_spec hinf
  obtain ⟨w', p', hrun, hrow', hk, hS, hlt⟩ := app_own (P := P) (ty := o.type) ht hi hz hzs hb hsz hrow (fun k j h => hH.lt 0 p k j hp h) (src_row hrow2 fun k j h => hH.lt 1 q k j hq h) (hH.dj 1 0 q p hq hp (by omega)) hlim
  refine ⟨.value (.slice p'.av p'.len p'.cap), _, [{ p with S := noS }, { q with S := noS }, p'], Z, w', ?_, .inl rfl, ?_⟩
  · have hhx : ρ x = .slice q.av q.len q.cap := hxv
    simp only [execOp, show o.op = _ from ho, resolve, invoke, builtin, Sem.run_bind, Sem.run_pure, Result.andThen_ok, List.map_toArray, List.map_cons, List.map_nil, hsv, hhx, hrun]
  · have hdz : Disj p'.S Z := fun k j h1 h2 => by
      rcases hS k j h1 with h | h | h
      · exact hH.dz 0 p hp k j h h2
      · exact hH.dz 1 q hq k j h h2
      · have := hH.zl k j h2; simp only [fresh] at h; omega
    refine ⟨⟨p', rfl, rfl⟩, ⟨rfl, fun i ob u ho hu => ?_, fun i j u u' hu hu' hne k l h1 h2 => ?_, fun i u hu => ?_, fun i u k j hu h1 => ?_, fun k j h => Nat.lt_of_lt_of_le (hH.zl k j h) hk.size, hH.gl.keep hk (fun k j h => hH.dz 0 p hp k j h) fun _ _ h => h⟩, fun i u hu => ?_, hk.mono fun k j h => ⟨0, p, hp, h⟩, fun _ _ h => h, fun _ _ h => .inl h, fun i u k j hu h1 => ?_⟩
    · rcases two_get hu with ⟨rfl, rfl⟩ | ⟨rfl, rfl⟩ | ⟨rfl, rfl⟩
      · cases ho; exact fun _ _ h => h
      · cases ho; exact fun _ _ h => h
      · cases ho; exact hrow'
    · rcases two_get hu with ⟨rfl, rfl⟩ | ⟨rfl, rfl⟩ | ⟨rfl, rfl⟩
      · exact h1
      · exact h1
      · rcases two_get hu' with ⟨rfl, rfl⟩ | ⟨rfl, rfl⟩ | ⟨rfl, rfl⟩
        · exact h2
        · exact h2
        · exact hne rfl
    · rcases two_get hu with ⟨rfl, rfl⟩ | ⟨rfl, rfl⟩ | ⟨rfl, rfl⟩
      · exact fun _ _ h => h.elim
      · exact fun _ _ h => h.elim
      · exact hdz
    · rcases two_get hu with ⟨rfl, rfl⟩ | ⟨rfl, rfl⟩ | ⟨rfl, rfl⟩
      · exact h1.elim
      · exact h1.elim
      · exact hlt k j h1
    · match i, hu with
      | 0, hu => simp at hu; subst hu; exact ⟨_, rfl, rfl, rfl, rfl⟩
      | 1, hu => simp at hu; subst hu; exact ⟨_, rfl, rfl, rfl, rfl⟩
      | n + 2, hu => simp at hu
    · rcases two_get hu with ⟨rfl, rfl⟩ | ⟨rfl, rfl⟩ | ⟨rfl, rfl⟩
      · exact h1.elim
      · exact h1.elim
      · rcases hS k j h1 with h | h | h
        · exact .inl ⟨0, p, hp, h⟩
        · exact .inl ⟨1, q, hq, h⟩
        · exact .inr h
theorem one_get {α : Type} {x y : α} {i : Nat} {u : α} (h : [x, y][i]? = some u) : (i = 0 ∧ u = x) ∨ (i = 1 ∧ u = y) := by
  match i, h with
  | 0, h => exact .inl ⟨rfl, by simpa using h.symm⟩
  | 1, h => exact .inr ⟨rfl, by simpa using h.symm⟩
  | n + 2, h => simp at h
theorem append_view {P : Program} {o : Oper} {s x : Operand} {t : TypeId} {d : Ty} (ho : isAppend o s x t) (hinf : elemInfo P t d = true) (hpl : plain d = true) {xs ys : List d.T} (hlim : xs.length + ys.length ≤ 1099511627776) :
    OSpec P o [s, x] [.p (.c (.sl 0)), .p (.c (.vw none d ys))] [.row d xs] (.p (.c (.sl 1))) [.dead, .row d (xs ++ ys)] := by
  intro w M Z ρ hH hA
  obtain ⟨v1, r1, hv1, hs, v2, r2, hv2, hx, hr2⟩ := hA
  simp only [List.map_cons, List.map_nil, List.cons.injEq] at hv1
  obtain ⟨rfl, rfl⟩ := hv1
  simp only [List.cons.injEq] at hv2
  obtain ⟨rfl, rfl⟩ := hv2
  obtain ⟨p, hp, hrow⟩ := hH.get (i := 0) (o := .row d xs) rfl
  obtain ⟨p1, hp1, hsv⟩ := hs
  rw [hp] at hp1; cases hp1
  have hM : M = [p] := by
    have hl := hH.ml
    match M, hl, hp with
    | [a], _, hp => simp at hp; rw [hp]
  subst hM
  obtain ⟨e, inf, z, ht, hi, hz, hsz, hzs, hb⟩ := elemInfo_spec hinf
  have hxr : SlRd Z w d ys (ρ x) := hx
  obtain ⟨w', p', hrun, hrow', hk, hS, hlt⟩ := app_own (P := P) (ty := o.type) ht hi hz hzs hb hsz hrow (fun k j h => hH.lt 0 p k j hp h) (src_view hxr hpl) (fun _ _ h => h.elim) hlim
  refine ⟨.value (.slice p'.av p'.len p'.cap), _, [{ p with S := noS }, p'], Z, w', ?_, .inl rfl, ?_⟩
  · simp only [execOp, show o.op = _ from ho, resolve, invoke, builtin, Sem.run_bind, Sem.run_pure, Result.andThen_ok, List.map_toArray, List.map_cons, List.map_nil, hsv, hrun]
  · have hdz : Disj p'.S Z := fun k j h1 h2 => by
      rcases hS k j h1 with h | h | h
      · exact hH.dz 0 p hp k j h h2
      · exact h.elim
      · have := hH.zl k j h2; simp only [fresh] at h; omega
    refine ⟨⟨p', rfl, rfl⟩, ⟨rfl, fun i ob u ho hu => ?_, fun i j u u' hu hu' hne k l h1 h2 => ?_, fun i u hu => ?_, fun i u k j hu h1 => ?_, fun k j h => Nat.lt_of_lt_of_le (hH.zl k j h) hk.size, hH.gl.keep hk (fun k j h => hH.dz 0 p hp k j h) fun _ _ h => h⟩, fun i u hu => ?_, hk.mono fun k j h => ⟨0, p, hp, h⟩, fun _ _ h => h, fun _ _ h => .inl h, fun i u k j hu h1 => ?_⟩
    · rcases one_get hu with ⟨rfl, rfl⟩ | ⟨rfl, rfl⟩
      · cases ho; exact fun _ _ h => h
      · cases ho; exact hrow'
    · rcases one_get hu with ⟨rfl, rfl⟩ | ⟨rfl, rfl⟩
      · exact h1
      · rcases one_get hu' with ⟨rfl, rfl⟩ | ⟨rfl, rfl⟩
        · exact h2
        · exact hne rfl
    · rcases one_get hu with ⟨rfl, rfl⟩ | ⟨rfl, rfl⟩
      · exact fun _ _ h => h.elim
      · exact hdz
    · rcases one_get hu with ⟨rfl, rfl⟩ | ⟨rfl, rfl⟩
      · exact h1.elim
      · exact hlt k j h1
    · match i, hu with
      | 0, hu => simp at hu; subst hu; exact ⟨_, rfl, rfl, rfl, rfl⟩
      | n + 1, hu => simp at hu
    · rcases one_get hu with ⟨rfl, rfl⟩ | ⟨rfl, rfl⟩
      · exact h1.elim
      · rcases hS k j h1 with h | h | h
        · exact .inl ⟨0, p, hp, h⟩
        · exact h.elim
        · exact .inr h
def nilSide (st : St) (x : Operand) : Option (Σ t : Ty, List t.T) :=
  match opd st.T x with
  | some (.p (.c (.vw _ t xs))) => some ⟨t, xs⟩
  | some (.p (.c (.sl o))) => match st.H[o]? with
    | some (.row t xs) => some ⟨t, xs⟩
    | _ => none
  | _ => none
theorem WT.nilcmp {E : Env} {k : List Item} {ops : Array Oper} {i : Nat} {rest : List Nat} {st : St} {o : Oper} {x : Operand} {t u : TypeId} {s : Σ t : Ty, List t.T} {d : Nat} (ho : ops[i]? = some o) (hg : guardOk ops st.T o = some true)
    (hop : o.op = .binOp .eql t x (.const (.slice none 0 0)) u) (ht : (isSlice E.P t).isSome = true) (hs : nilSide st x = some s) (hd : o.dst = some d) (hlt : d < E.nt)
    (h : ∀ b : Bool, (b = true → s.2 = []) → WT E (.inRegion ops rest :: k) ⟨tput st.T d (.p (.c (.bool b))), st.H⟩) : WT E (.inRegion ops (i :: rest) :: k) st := by
  intro M Z a w hr cs
  have hval : ∃ av n cap, a.eval x = .slice av n cap ∧ (av = none → s.2 = []) := by
    unfold nilSide at hs
    split at hs
    · rename_i dd t' xs hx
      cases hs
      obtain ⟨av, cap, hv, _, hr'⟩ := opd_rel hr hx
      exact ⟨av, _, cap, hv, fun hn => hr'.elim id fun ⟨b, f, ha, _⟩ => by rw [ha] at hn; cases hn⟩
    · rename_i q hx
      split at hs
      · rename_i t' xs hH
        cases hs
        obtain ⟨p, hp, hv⟩ := opd_rel hr hx
        have hrow : RowOwn w t' xs p := hr.ob q _ p hH hp
        exact ⟨p.av, _, p.cap, hv, fun hn => hrow.2.elim (fun h => h.2.2.1) fun ⟨g, cur, e, ha, _⟩ => by rw [ha] at hn; cases hn⟩
      · cases hs
    · cases hs
  obtain ⟨av, n, cap, hv, hn⟩ := hval
  obtain ⟨e, he⟩ := Option.isSome_iff_exists.1 ht
  have hrun : ∃ b : Bool, (execOp a.eval o).run E.P w = .ok (.value (.bool b)) w ∧ (b = true → s.2 = []) := by
    refine ⟨av.isNone, ?_, fun h => hn (by simpa using h)⟩
    have := run_equal_slice_nil (P := E.P) (w := w) t e av n cap (isSlice_spec he)
    have hcst : a.eval (.const (.slice none 0 0)) = .slice none 0 0 := rfl
    simp only [execOp, hop, hv, hcst]
    simp [eqGuard, binOp, this]
  obtain ⟨b, hrun, hb⟩ := hrun
  refine .op ho (guardOk_spec hr hg) ?_
  unfold Oper.wp
  rw [hrun]
  simp only [Oper.upon, hd]
  exact h b hb M Z _ w (hr.put hlt rfl) cs
end Go.Proofs.YtmbbapeiikifgaaGreatDoor
