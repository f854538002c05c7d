/- Calls: what a function is said to do on the chunks that it is handed; a call of it out of a larger state; the proof of such a saying out of a body. -/
import Derived.Test.YtmbbapeiikifgaaGreatDoorSlM
namespace Go.Proofs.YtmbbapeiikifgaaGreatDoor
open Go
structure HRel (H : List Ob) (M : List Pl) (Z : CS) (w : World) : Prop where
  ml : M.length = H.length
  ob : ∀ (i : Nat) (o : Ob) (p : Pl), H[i]? = some o → M[i]? = some p → ObRel M Z w o p
  dj : ∀ (i j : Nat) (p q : Pl), M[i]? = some p → M[j]? = some q → i ≠ j → Disj p.S q.S
  dz : ∀ (i : Nat) (p : Pl), M[i]? = some p → Disj p.S Z
  lt : ∀ (i : Nat) (p : Pl) (k j : Nat), M[i]? = some p → p.S k j → k < w.heap.size
  zl : ∀ k j, Z k j → k < w.heap.size
  gl : GRel Z w
def allS (M : List Pl) : CS := fun k j => ∃ (i : Nat) (p : Pl), M[i]? = some p ∧ p.S k j
def AsRel (M : List Pl) (Z : CS) (w : World) : List AV → List Value → Prop
  | [], vs => vs = []
  | x :: xs, vs => ∃ v r, vs = v :: r ∧ ARel M Z w x v ∧ AsRel M Z w xs r
structure Fin (M : List Pl) (Z : CS) (w : World) (r : AV) (H' : List Ob) (v : Value) (M' : List Pl) (Z' : CS) (w' : World) : Prop where
  rel : ARel M' Z' w' r v
  h : HRel H' M' Z' w'
  pl : ∀ (i : Nat) (p : Pl), M[i]? = some p → ∃ p', M'[i]? = some p' ∧ p'.av = p.av ∧ p'.len = p.len ∧ p'.cap = p.cap
  kp : Keep w w' (allS M)
  z1 : ∀ k j, Z k j → Z' k j
  z2 : ∀ k j, Z' k j → Z k j ∨ allS M k j ∨ fresh w k j
  s : ∀ (i : Nat) (p : Pl) k j, M'[i]? = some p → p.S k j → allS M k j ∨ fresh w k j
def Spec (P : Program) (f : FuncId) (args : List AV) (H : List Ob) (r : AV) (H' : List Ob) : Prop :=
  ∀ w M Z vs, HRel H M Z w → AsRel M Z w args vs → Calls P f vs.toArray w (fun e w' => ∃ v M' Z', e = .returned v ∧ Fin M Z w r H' v M' Z' w')
structure Ends (E : Env) (fn : Func) (r : AV) (H' : List Ob) : Prop where
  f : E.P.funcs[E.f]? = some fn
  R : ∀ v M' Z' w', Fin E.M0 E.Z0 E.w0 r H' v M' Z' w' → E.R (.returned v) w'
  s0 : ∀ k j, E.S0 k j ↔ allS E.M0 k j
  n0 : E.M0.length = E.n0
def argsT : Nat → List AV → List (Nat × AV)
  | _, [] => []
  | n, x :: xs => (n, x) :: argsT (n + 1) xs
theorem argsT_rel {M : List Pl} {Z : CS} {w : World} {E : Env} : ∀ {xs : List AV} {vs : List Value} {n : Nat} {pre : Array Value} {post : Array Value}, pre.size = n → AsRel M Z w xs vs →
    ∀ d x, (d, x) ∈ argsT n xs → ∃ v, (pre ++ vs.toArray ++ post)[d]? = some v ∧ ARel M Z w x v
  | [], _, _, _, _, _, _, d, x, h => by simp [argsT] at h
  | y :: ys, vs, n, pre, post, hn, ⟨v, r, hv, h1, h2⟩, d, x, h => by
    subst hv
    rcases List.mem_cons.1 h with he | h
    · cases he
      refine ⟨v, ?_, h1⟩
      rw [Array.getElem?_append_left (by simp; omega), Array.getElem?_append_right (by omega)]
      simp [hn]
    · have := argsT_rel (E := E) (pre := pre.push v) (post := post) (n := n + 1) (by simp [hn]) h2 d x h
      have e : pre.push v ++ r.toArray ++ post = pre ++ (v :: r).toArray ++ post := by apply Array.ext'; simp
      rwa [e] at this
def resV (P : Program) (st : St) : ResultVar → Option PV
  | .tmp t => match tget st.T t with | some (.p v) => some v | _ => none
  | .cell t ty => match tget st.T t, flat P ty with
    | some (.p (.c (.ptr o j))), some fl => match st.H[o]? with | some (.box cs) => sliceCells fl cs j | _ => none
    | _, _ => none
def resVs (P : Program) (st : St) : List ResultVar → Option (List PV)
  | [] => some []
  | r :: rs => match resV P st r, resVs P st rs with | some v, some vs => some (v :: vs) | _, _ => none
def resA (P : Program) (st : St) (rs : Array ResultVar) : Option AV :=
  match resVs P st rs.toList with
  | some [v] => some (.p v)
  | some vs => some (.tup vs)
  | none => none
section
variable {E : Env} {st : St} {M : List Pl} {Z : CS} {a : Act} {w : World}
theorem Rel.hrel (h : Rel E st M Z a w) : HRel st.H M Z w := ⟨h.ml, h.ob, h.dj, h.dz, h.lt, h.zl, h.gl⟩
def resSem (tmps : Array Value) : ResultVar → Sem Value
  | .tmp t => pure (tmps.getD t undef)
  | .cell a t => do loadVar t (← asAddr (tmps.getD a undef))
theorem resV_run (h : Rel E st M Z a w) {r : ResultVar} {x : PV} (hr : resV E.P st r = some x) : ∃ v, (resSem a.tmps r).run E.P w = .ok v w ∧ PRel M Z w x v := by
  cases r with
  | tmp t =>
    simp only [resV] at hr
    split at hr
    · rename_i v ht
      cases hr
      obtain ⟨u, hu, hur⟩ := h.tm t _ (tget_mem ht)
      exact ⟨u, by simp [resSem, Array.getD_eq_getD_getElem?, hu], hur⟩
    · cases hr
  | cell t ty =>
    simp only [resV] at hr
    split at hr
    · rename_i o j fl ht hf
      split at hr
      · rename_i cs hH
        obtain ⟨u, hu, p, b, f, hp, ha, hv⟩ := h.tm t _ (tget_mem ht)
        obtain ⟨b', f', ha', hS, _, vs, hc, hcell⟩ := h.ob o _ p hH hp
        rw [ha] at ha'; cases ha'
        have hl : (a.tmps.getD t undef) = .pointer (some ⟨b, f + j, none⟩) := by simp [Array.getD_eq_getD_getElem?, hu, hv]
        cases fl with
        | none =>
          simp only [sliceCells, Option.map_eq_some_iff] at hr
          obtain ⟨c, hj, rfl⟩ := hr
          obtain ⟨u', hu', hr'⟩ := hc.get hj
          refine ⟨u', ?_, hr'⟩
          simp [resSem, hl, asAddr, run_loadVar_cell hf (hcell j u' hu')]
        | some n =>
          simp only [sliceCells] at hr
          split at hr
          · rename_i hn
            cases hr
            have hlen := hc.len
            have hl2 : ((vs.drop j).take n).length = n := by simp; omega
            refine ⟨.agg ((vs.drop j).take n).toArray, ?_, _, rfl, (hc.drop j).take n⟩
            have := run_loadVar_agg (w := w) hf hl2 (b := b) (f := f + j) fun i v hi => by
              have hi' := (List.getElem?_eq_some_iff.1 hi).1
              rw [hl2] at hi'
              rw [List.getElem?_take_of_lt hi', List.getElem?_drop] at hi
              rw [Nat.add_assoc]
              exact hcell (j + i) v hi
            simp [resSem, hl, asAddr, this]
          · cases hr
      · cases hr
    · cases hr
theorem resVs_run (h : Rel E st M Z a w) : ∀ {rs : List ResultVar} {xs : List PV}, resVs E.P st rs = some xs → ∃ vs : List Value, (rs.mapM (resSem a.tmps)).run E.P w = .ok vs w ∧ PsRel M Z w xs vs
  | [], xs, hx => by simp only [resVs, Option.some.injEq] at hx; subst hx; exact ⟨[], by simp, rfl⟩
  | r :: rs, xs, hx => by
    simp only [resVs] at hx
    split at hx
    · rename_i x xs' h1 h2
      cases hx
      obtain ⟨v, hv, hvr⟩ := resV_run h h1
      obtain ⟨vs, hvs, hvsr⟩ := resVs_run h h2
      exact ⟨v :: vs, by simp [List.mapM_cons, hv, hvs], v, vs, rfl, hvr, hvsr⟩
    · cases hx
theorem PsRel.len : ∀ {cs : List PV} {vs : List Value}, PsRel M Z w cs vs → vs.length = cs.length
  | [], _, h => by simp [PsRel] at h; simp [h]
  | _ :: cs, _, ⟨_, r, hv, _, h⟩ => by subst hv; simp [PsRel.len h]
theorem resA_run (h : Rel E st M Z a w) {fn : Func} {x : AV} (hr : resA E.P st fn.results = some x) : ∃ v, (results fn a.tmps).run E.P w = .ok v w ∧ ARel M Z w x v := by
  unfold resA at hr
  have hmap : ∀ {xs : List PV}, resVs E.P st fn.results.toList = some xs → ∃ vs : List Value, (results fn a.tmps).run E.P w = .ok (if h : vs.length = 1 then vs[0] else .tuple vs.toArray) w ∧ PsRel M Z w xs vs := by
    intro xs hx
    obtain ⟨vs, hv, hvr⟩ := resVs_run h hx
    refine ⟨vs, ?_, hvr⟩
    have : results fn a.tmps = (fn.results.mapM (resSem a.tmps) >>= fun vs => Pure.pure (if h : vs.size = 1 then vs[0] else .tuple vs)) := by
      unfold results
      congr 1
    rw [this, Array.mapM_eq_mapM_toList]
    simp only [Sem.run_bind, Sem.run_map, hv]
    simp
  split at hr
  · rename_i v hx
    cases hr
    obtain ⟨vs, hrun, u, r, hvs, hu, hr0⟩ := hmap hx
    simp [PsRel] at hr0
    subst hr0; subst hvs
    exact ⟨u, by simpa using hrun, hu⟩
  · rename_i vs0 hne hx
    cases hr
    obtain ⟨vs, hrun, hvr⟩ := hmap hx
    refine ⟨.tuple vs.toArray, ?_, vs, rfl, hvr⟩
    rw [hrun]
    have : ¬ vs.length = 1 := by
      intro h1
      rw [hvr.len] at h1
      match vs0, h1 with
      | [v], _ => exact hne v rfl
    simp [this]
  · cases hr
theorem Rel.fin {fn : Func} {r : AV} {H' : List Ob} (hE : Ends E fn r H') (h : Rel E st M Z a w) (hH : st.H = H') {v : Value} (hr : ARel M Z w r v) : E.R (.returned v) w := by
  subst hH
  refine hE.R v M Z w ⟨hr, h.hrel, fun i p hp => ?_, h.kp.mono fun k j => (hE.s0 k j).1, h.z0, fun k j hz => ?_, fun i p k j hp hs => ?_⟩
  · have hi : i < E.n0 := by rw [← hE.n0]; exact (List.getElem?_eq_some_iff.1 hp).1
    obtain ⟨q, p0, hq, hp0, e1, e2, e3⟩ := h.g i hi
    rw [hp] at hp0; cases hp0
    exact ⟨q, hq, e1, e2, e3⟩
  · rcases h.zs k j hz with h1 | h1 | h1
    · exact .inl h1
    · exact .inr (.inl ((hE.s0 k j).1 h1))
    · exact .inr (.inr h1)
  · rcases h.os i p k j hp hs with h1 | h1
    · exact .inl ((hE.s0 k j).1 h1)
    · exact .inr h1
theorem WT.ret {fn : Func} {r : AV} {H' : List Ob} (hE : Ends E fn r H') {k : List Item} {st' : St} (ss : List Sop) (h : retell E.n0 ss st = some st') (hr : resA E.P st' fn.results = some r) (hH : st'.H = H') : WT E (.code .ret :: k) st := by
  refine .sops ss h fun M Z a w hrel cs => ?_
  obtain ⟨v, hv, hvr⟩ := resA_run hrel hr
  exact .ret hE.f hrel.df hv (hrel.fin hE hH hvr)
theorem WT.fall {fn : Func} {r : AV} {H' : List Ob} (hE : Ends E fn r H') {st' : St} (ss : List Sop) (h : retell E.n0 ss st = some st') (hr : resA E.P st' fn.results = some r) (hH : st'.H = H') : WT E [] st := by
  refine .sops ss h fun M Z a w hrel cs => ?_
  obtain ⟨v, hv, hvr⟩ := resA_run hrel hr
  exact .fall hE.f hrel.df hv (hrel.fin hE hH hvr)
theorem AsRel.len : ∀ {xs : List AV} {vs : List Value}, AsRel M Z w xs vs → vs.length = xs.length
  | [], _, h => by simp [AsRel] at h; simp [h]
  | _ :: xs, _, ⟨_, r, hv, _, h⟩ => by subst hv; simp [AsRel.len h]
@[reducible] def mkE (P : Program) (n0 nt : Nat) (f : FuncId) (w0 : World) (S0 Z0 : CS) (M0 : List Pl) (R : Ending → World → Prop) : Env :=
  { P := P, w0 := w0, S0 := S0, Z0 := Z0, M0 := M0, n0 := n0, nt := nt, f := f, R := R }
theorem Spec.of {P : Program} {f : FuncId} {fn : Func} {c : Code} {args : List AV} {H : List Ob} {r : AV} {H' : List Ob} (n0 nt : Nat) (hf : P.funcs[f]? = some fn) (hb : fn.body = some c) (hnt : fn.ntmps = nt) (hl : args.length ≤ nt) (hn : H.length = n0)
    (h : ∀ w0 S0 Z0 M0 R, Ends (mkE P n0 nt f w0 S0 Z0 M0 R) fn r H' → WT (mkE P n0 nt f w0 S0 Z0 M0 R) [.code c] ⟨argsT 0 args, H⟩) : Spec P f args H r H' := by
  intro w M Z vs hH hA
  subst hnt
  let R : Ending → World → Prop := fun e w' => ∃ v M' Z', e = .returned v ∧ Fin M Z w r H' v M' Z' w'
  have hlen := hA.len
  refine calls_of_ter (E := mkE P n0 fn.ntmps f w (allS M) Z M R) hf hb fun cs => h w (allS M) Z M R ⟨hf, fun v M' Z' w' hfin => ⟨v, M', Z', rfl, hfin⟩, fun _ _ => Iff.rfl, hH.ml.trans hn⟩ M Z _ w ?_ cs
  exact
  { df := rfl
    nt := by simp; omega
    tm := fun d x hx => by
      have := argsT_rel (E := mkE P n0 fn.ntmps f w (allS M) Z M R) (pre := #[]) (post := Array.replicate (fn.ntmps - vs.toArray.size) undef) (n := 0) rfl hA d x hx
      simpa using this
    ml := hH.ml, ob := hH.ob, dj := hH.dj, dz := hH.dz, lt := hH.lt, zl := hH.zl, gl := hH.gl
    kp := Keep.refl _ _
    os := fun i p k j hp hs => .inl ⟨i, p, hp, hs⟩
    zs := fun k j hz => .inl hz
    z0 := fun _ _ h => h
    g := fun i hi => by
      have : i < M.length := by rw [hH.ml, hn]; exact hi
      exact ⟨M[i], M[i], by simp [this], by simp [this], rfl, rfl, rfl⟩ }
end
end Go.Proofs.YtmbbapeiikifgaaGreatDoor
