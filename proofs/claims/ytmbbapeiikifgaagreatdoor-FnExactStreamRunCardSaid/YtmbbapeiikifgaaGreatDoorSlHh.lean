/- Operations that write: stores into boxes, new boxes. -/
import Derived.Test.YtmbbapeiikifgaaGreatDoorSlG
namespace Go.Proofs.YtmbbapeiikifgaaGreatDoor
open Go
theorem run_store {P : Program} {a : Addr} {v u : Value} {w : World} (h1 : Value.one v = true) (hc : w.cell? a = some u) (hf : w.frozen? a = false) :
    (store a v).run P w = .ok () (w.setCell a v) := by
  unfold store
  cases v <;> first | (simp [Sem.run, hc, hf]; done) | (simp [Value.one] at h1; done)
theorem Keep.setCell {w : World} {b o : Nat} {v : Value} : Keep w (w.setCell ⟨b, o, none⟩ v) (fun k j => k = b ∧ j = o) := by
  refine ⟨rfl, rfl, rfl, by simp [World.setCell], fun k hk => ?_⟩
  by_cases hkb : k = b
  · subst hkb
    have hb : w.heap[k]? = some w.heap[k] := by simp [hk]
    cases hob : w.heap[k] with
    | cells c e fr =>
      refine .inr (.inl ⟨c, c.setIfInBounds o v, e, fr, by rw [hb, hob], ?_, by simp, fun j hj => ?_⟩)
      · simp only [World.setCell]; rw [Array.getElem?_modify, if_pos rfl, hb, hob]; rfl
      · rw [Array.getElem?_setIfInBounds_ne]
        intro h
        exact hj ⟨rfl, h.symm⟩
    | _ => exact .inl (by simp only [World.setCell]; rw [Array.getElem?_modify, if_pos rfl, hb, hob]; rfl)
  · exact .inl (by simp [World.setCell, Array.getElem?_modify, Ne.symm hkb])
theorem cell_setCell {w : World} {b o : Nat} {v u : Value} (h : w.cell? ⟨b, o, none⟩ = some u) : (w.setCell ⟨b, o, none⟩ v).cell? ⟨b, o, none⟩ = some v := by
  obtain ⟨c, e, fr, hb, hc⟩ := cell_iff.1 h
  have hlt := (Array.getElem?_eq_some_iff.1 hb).1
  have hoc := (Array.getElem?_eq_some_iff.1 hc).1
  refine cell_iff.2 ⟨c.setIfInBounds o v, e, fr, ?_, by simp [hoc]⟩
  simp only [World.setCell, Array.getElem?_modify, if_true, hb]
  simp
theorem frozen_setCell {w : World} {a : Addr} {v : Value} (k j : Nat) : (w.setCell a v).frozen? ⟨k, j, none⟩ = w.frozen? ⟨k, j, none⟩ := by
  simp only [World.frozen?, World.setCell, Array.getElem?_modify]
  by_cases h : a.block = k
  · subst h
    rcases hw : w.heap[a.block]? with _ | ob
    · simp
    · cases ob <;> simp
  · simp [h]
theorem run_storeCellsF {P : Program} {b f : Nat} : ∀ (vs : List Value) (i : Nat) (w : World), (∀ v, v ∈ vs → Value.one v = true) →
    (∀ j, j < vs.length → (∃ u, w.cell? ⟨b, f + i + j, none⟩ = some u) ∧ w.frozen? ⟨b, f + i + j, none⟩ = false) →
    ∃ w', (storeCells ⟨b, f, none⟩ vs i).run P w = .ok () w' ∧ Keep w w' (fun k j => k = b ∧ f + i ≤ j ∧ j < f + i + vs.length) ∧
      (∀ j v, vs[j]? = some v → w'.cell? ⟨b, f + i + j, none⟩ = some v) ∧ ∀ k j, w'.frozen? ⟨k, j, none⟩ = w.frozen? ⟨k, j, none⟩
  | [], i, w, _, _ => ⟨w, rfl, Keep.refl _ _, fun j v h => by simp at h, fun _ _ => rfl⟩
  | v :: vs, i, w, h1, hc => by
    obtain ⟨⟨u, hu⟩, hf⟩ := hc 0 (by simp)
    rw [Nat.add_zero] at hu hf
    have hk0 : Keep w (w.setCell ⟨b, f + i, none⟩ v) (fun k j => k = b ∧ j = f + i) := Keep.setCell
    have hlt := cell_lt hu
    obtain ⟨w', hrun, hk, hcells, hfr⟩ := run_storeCellsF (P := P) (b := b) (f := f) vs (i + 1) (w.setCell ⟨b, f + i, none⟩ v) (fun x hx => h1 x (by simp [hx])) fun j hj => by
      obtain ⟨⟨u', hu'⟩, hf'⟩ := hc (j + 1) (by simp; omega)
      rw [show f + i + (j + 1) = f + (i + 1) + j from by omega] at hu' hf'
      refine ⟨⟨u', hk0.cell hu' fun h => by omega⟩, ?_⟩
      rw [frozen_setCell]; exact hf'
    refine ⟨w', ?_, ?_, ?_, fun k j => (hfr k j).trans (frozen_setCell k j)⟩
    · simp only [storeCells, addr_add]
      simp [run_store (P := P) (h1 v (by simp)) hu hf, hrun]
    · refine (hk0.mono fun k j h => ?_).trans hk fun k j h => .inl ?_
      · simp; omega
      · simp; omega
    · intro j x hj
      cases j with
      | zero =>
        simp at hj; subst hj
        rw [Nat.add_zero]
        exact hk.cell (cell_setCell hu) fun h => by omega
      | succ j =>
        have := hcells j x (by simpa using hj)
        rwa [show f + (i + 1) + j = f + i + (j + 1) from by omega] at this
theorem run_storeCells {P : Program} {b f : Nat} (vs : List Value) (i : Nat) (w : World) (h1 : ∀ v, v ∈ vs → Value.one v = true)
    (hc : ∀ j, j < vs.length → (∃ u, w.cell? ⟨b, f + i + j, none⟩ = some u) ∧ w.frozen? ⟨b, f + i + j, none⟩ = false) :
    ∃ w', (storeCells ⟨b, f, none⟩ vs i).run P w = .ok () w' ∧ Keep w w' (fun k j => k = b ∧ f + i ≤ j ∧ j < f + i + vs.length) ∧
      ∀ j v, vs[j]? = some v → w'.cell? ⟨b, f + i + j, none⟩ = some v :=
  let ⟨w', h2, h3, h4, _⟩ := run_storeCellsF vs i w h1 hc
  ⟨w', h2, h3, h4⟩
structure MRes where
  y : Option AV
  st : St
  c : Option Prop
  md : Rd
def MSub (M M' : List Pl) : Prop := ∀ (o : Nat) (p' : Pl), M'[o]? = some p' → o < M.length → ∃ p, M[o]? = some p ∧ p'.av = p.av ∧ ∀ k j, p'.S k j → p.S k j
theorem MSub.refl (M : List Pl) : MSub M M := fun _ p h _ => ⟨p, h, rfl, fun _ _ h => h⟩
theorem MSub.append (M N : List Pl) : MSub M (M ++ N) := fun o p h hl => ⟨p, by rwa [List.getElem?_append_left hl] at h, rfl, fun _ _ h => h⟩
def MOk (E : Env) (M : List Pl) (Z : CS) (a : Act) (w : World) (o : Oper) (r : MRes) : Prop :=
  ∃ M' w', Rel E r.st M' Z a w' ∧ MSub M M' ∧ (∀ (i : Nat) (p' : Pl) k j, M'[i]? = some p' → M.length ≤ i → p'.S k j → fresh w k j ∨ r.md.set M Z k j) ∧ Keep w w' (r.md.set M Z) ∧
    match r.y with
    | some y => ∃ v, (execOp a.eval o).run E.P w = .ok (.value v) w' ∧ ARel M' Z w' y v
    | none => (execOp a.eval o).run E.P w = .ok .skip w'
def evStore (P : Program) (st : St) (t : TypeId) (x v : Operand) : Option MRes :=
  match opd st.T x, opd st.T v, P.info? t with
  | some (.p (.c (.ptr o j))), some (.p pv), some inf =>
    match st.H[o]? with
    | some (.box cs) =>
      if (pcells pv).length = inf.size ∧ j + (pcells pv).length ≤ cs.length ∧ st.free o = true ∧ (depsOf (pcells pv)).contains (some o) = false then
        some ⟨none, ⟨st.T, st.H.set o (.box (splice cs (pcells pv) j))⟩, none, .cells o j (pcells pv).length⟩
      else none
    | _ => none
  | _, _, _ => none
section
variable {E : Env} {st : St} {M : List Pl} {Z : CS} {a : Act} {w : World} {o : Oper} {r : MRes}
theorem set_same {α : Type} {l : List α} {i : Nat} {x : α} (h : l[i]? = some x) : l.set i x = l := by
  apply List.ext_getElem?
  intro j
  rw [List.getElem?_set]
  split
  · rename_i hij; subst hij
    have := (List.getElem?_eq_some_iff.1 h).1
    rw [h]; simp [this]
  · rfl
theorem evStore_ok (hr : Rel E st M Z a w) {t : TypeId} {x v : Operand} (ho : o.op = .store t x v) (h : evStore E.P st t x v = some r) : MOk E M Z a w o r := by
  unfold evStore at h
  split at h
  · rename_i o' j pv inf hx hv hinf
    split at h
    · rename_i cs hH
      split at h
      · rename_i hcond
        obtain ⟨hsz, hjn, hfree, hdep⟩ := hcond
        cases h
        obtain ⟨p, b, f, hp, ha, hxe⟩ := opd_rel hr hx
        have hvr : PRel M Z w pv (a.eval v) := opd_rel hr hv
        have hvc := hvr.cells
        obtain ⟨b', f', ha', hS, hfz, vs, hc, hcell⟩ := hr.ob o' _ p hH hp
        rw [ha] at ha'; cases ha'
        have hlen := hc.len
        have hlenv := hvc.len
        obtain ⟨w', hrun, hk, hcells, hfrz⟩ := run_storeCellsF (P := E.P) (b := b) (f := f + j) (a.eval v).cells.toList 0 w hvc.ones fun i hi => by
          refine ⟨⟨vs[j + i]'(by omega), ?_⟩, ?_⟩
          · have := hcell (j + i) _ (List.getElem?_eq_getElem (by omega))
            rwa [show f + (j + i) = f + j + 0 + i from by omega] at this
          · have := hfz (j + i) (by omega)
            rwa [show f + (j + i) = f + j + 0 + i from by omega] at this
        simp only [Nat.add_zero] at hk hcells
        have hX : ∀ k i, (k = b ∧ f + j ≤ i ∧ i < f + j + (a.eval v).cells.toList.length) → p.S k i := fun k i ⟨h1, h2, h3⟩ => (hS k i).2 ⟨h1, by omega, by omega⟩
        have hnd : ∀ d, d ∈ depsOf cs ++ depsOf (pcells pv) → d ≠ some o' := by
          rintro d hd rfl
          rcases List.mem_append.1 hd with hd | hd
          · exact St.free_ne hfree (St.dep_H hH (q := some o') (by simpa [Ob.deps] using hd)) rfl
          · simp only [List.contains_eq_mem, decide_eq_false_iff_not] at hdep; exact hdep hd
        have hdisj : ∀ d, d ∈ depsOf cs ++ depsOf (pcells pv) → Disj (fun k i => k = b ∧ f + j ≤ i ∧ i < f + j + (a.eval v).cells.toList.length) (zone M Z d) := by
          intro d hd k i hx hz
          cases d with
          | none => exact hr.dz o' p hp k i (hX k i hx) hz
          | some q =>
            obtain ⟨pq, hpq, hs⟩ := hz
            exact hr.dj o' q p pq hp hpq (fun h => hnd _ hd (by rw [h])) k i (hX k i hx) hs
        have hmono : ∀ {ds : List C} {us : List Value}, (∀ d, d ∈ depsOf ds → d ∈ depsOf cs ++ depsOf (pcells pv)) → CsRel M Z w ds us → CsRel M Z w' ds us :=
          fun hsub hds => hds.mono hk (fun _ _ h => h) (MLe.refl M _) fun d hd => hdisj d (hsub d hd)
        have hbox : ObRel (M.set o' p) Z w' (.box (splice cs (pcells pv) j)) p := by
          rw [set_same hp]
          refine ⟨b, f, ha, fun k i => ?_, fun i hi => ?_, vs.take j ++ (a.eval v).cells.toList ++ vs.drop (j + (a.eval v).cells.toList.length), ?_, fun i u hi => ?_⟩
          · rw [hS k i]; simp [splice]; omega
          · have hi' : i < cs.length := by simp [splice] at hi; omega
            have := hcell i _ (List.getElem?_eq_getElem (by omega))
            rw [hfrz]
            exact hfz i hi'
          · refine ((hmono (fun d hd => ?_) (hc.take j)).append (hmono (fun d hd => List.mem_append.2 (.inr hd)) hvc)).append ?_
            · refine List.mem_append.2 (.inl ?_)
              simp only [depsOf, List.mem_flatMap] at hd ⊢
              obtain ⟨c, hc1, hc2⟩ := hd
              exact ⟨c, List.mem_of_mem_take hc1, hc2⟩
            · rw [hlenv]
              refine hmono (fun d hd => ?_) (hc.drop _)
              refine List.mem_append.2 (.inl ?_)
              simp only [depsOf, List.mem_flatMap] at hd ⊢
              obtain ⟨c, hc1, hc2⟩ := hd
              exact ⟨c, List.mem_of_mem_drop hc1, hc2⟩
          · rw [List.append_assoc, List.getElem?_append] at hi
            have hvl : (vs.take j).length = j := by simp; omega
            rw [hvl] at hi
            split at hi
            · rename_i hij
              rw [List.getElem?_take_of_lt hij] at hi
              exact hk.cell (hcell i u hi) fun h => by omega
            · rename_i hij
              rw [List.getElem?_append] at hi
              split at hi
              · have := hcells (i - j) u hi
                rwa [show f + j + (i - j) = f + i from by omega] at this
              · rename_i hij2
                rw [List.getElem?_drop, show j + (a.eval v).cells.toList.length + (i - j - (a.eval v).cells.toList.length) = i from by omega] at hi
                exact hk.cell (hcell i u hi) fun h => by omega
        have hrel := hr.upd hk (p' := p) (o' := .box (splice cs (pcells pv) j)) hp hX hfree rfl rfl rfl (fun _ _ h => h) hbox
        rw [set_same hp] at hrel
        refine ⟨M, w', hrel, MSub.refl M, fun i p' k j hi hl _ => absurd (List.getElem?_eq_some_iff.1 hi).1 (by omega), hk.mono fun k i ⟨h1, h2, h3⟩ => ⟨p, b, f, hp, ha, h1, h2, by omega⟩, ?_⟩
        have hsz' : (a.eval v).cells.size = inf.size := by rw [← Array.length_toList, hlenv, hsz]
        simp [execOp, ho, Instr.storeAt, hxe, Instr.sureAddr, storeVar, run_sizeOf hinf, hsz', hrun]
      · cases h
    · cases h
  · cases h
end
end Go.Proofs.YtmbbapeiikifgaaGreatDoor
