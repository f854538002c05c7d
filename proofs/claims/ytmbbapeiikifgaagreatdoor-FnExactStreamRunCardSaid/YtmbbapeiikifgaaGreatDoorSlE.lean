/- Operations whose value is reckoned without memory, on symbolic values. -/
import Derived.Test.YtmbbapeiikifgaaGreatDoorSlD
namespace Go.Proofs.YtmbbapeiikifgaaGreatDoor
open Go
def pureRun (P : Program) {α : Type} : Sem α → Option α
  | .pure a => some a
  | .program k => pureRun P (k P)
  | .mark _ k => pureRun P k
  | _ => none
theorem pureRun_run {P : Program} {α : Type} (s : Sem α) : ∀ {a : α}, pureRun P s = some a → ∀ w, s.run P w = .ok a w := by
  induction s with
  | pure a => intro b h w; simp [pureRun] at h; subst h; rfl
  | program k ih => intro b h w; exact ih P h w
  | mark m k ih => intro b h w; exact ih h w
  | _ => intro b h; simp [pureRun] at h
def exC : C → Option Value
  | .int k n => some (.int k n)
  | .bool b => some (.bool b)
  | .str s => some (.string s)
  | .nilp => some (.pointer none)
  | .nilsl => some (.slice none 0 0)
  | .nilfn => some .nilFunc
  | .nilif => some .nilIface
  | _ => none
def exCs : List C → Option (List Value)
  | [] => some []
  | c :: cs => match exC c, exCs cs with | some v, some vs => some (v :: vs) | _, _ => none
def exP : PV → Option Value
  | .c x => exC x
  | .agg xs => match exCs xs with | some vs => some (.agg vs.toArray) | none => none
def exA : AV → Option Value
  | .p x => exP x
  | .tup _ => none
theorem exC_rel {M : List Pl} {Z : CS} {w : World} {c : C} {v u : Value} (h : exC c = some v) (hr : CRel M Z w c u) : u = v := by
  cases c <;> simp [exC] at h <;> subst h <;> exact hr
theorem exCs_rel {M : List Pl} {Z : CS} {w : World} : ∀ {cs : List C} {vs us : List Value}, exCs cs = some vs → CsRel M Z w cs us → us = vs
  | [], _, _, h, hr => by simp [exCs] at h; subst h; exact hr
  | c :: cs, vs, us, h, ⟨v, r, hv, h1, h2⟩ => by
    simp only [exCs] at h
    split at h
    · rename_i v' vs' e1 e2
      cases h
      rw [hv, exC_rel e1 h1, exCs_rel e2 h2]
    · cases h
theorem exP_rel {M : List Pl} {Z : CS} {w : World} {x : PV} {v u : Value} (h : exP x = some v) (hr : PRel M Z w x u) : u = v := by
  cases x with
  | c x => exact exC_rel h hr
  | agg xs =>
    simp only [exP] at h
    split at h
    · rename_i vs e
      cases h
      obtain ⟨us, hu, hrs⟩ := hr
      rw [hu, exCs_rel e hrs]
    · cases h
theorem exA_rel {M : List Pl} {Z : CS} {w : World} {x : AV} {v u : Value} (h : exA x = some v) (hr : ARel M Z w x u) : u = v := by
  cases x with
  | p x => exact exP_rel h hr
  | tup xs => simp [exA] at h
def ofV : Value → Option C
  | .int k n => some (.int k n)
  | .bool b => some (.bool b)
  | .string s => some (.str s)
  | .pointer none => some .nilp
  | .slice none 0 0 => some .nilsl
  | .nilFunc => some .nilfn
  | .nilIface => some .nilif
  | _ => none
def ofVs : List Value → Option (List C)
  | [] => some []
  | v :: vs => match ofV v, ofVs vs with | some c, some cs => some (c :: cs) | _, _ => none
def ofPV : Value → Option PV
  | .agg vs => match ofVs vs.toList with | some cs => some (.agg cs) | none => none
  | v => match ofV v with | some c => some (.c c) | none => none
theorem ofV_rel {M : List Pl} {Z : CS} {w : World} {v : Value} {c : C} (h : ofV v = some c) : CRel M Z w c v := by
  unfold ofV at h
  split at h <;> first | (cases h; rfl) | cases h
theorem ofVs_rel {M : List Pl} {Z : CS} {w : World} : ∀ {vs : List Value} {cs : List C}, ofVs vs = some cs → CsRel M Z w cs vs
  | [], cs, h => by simp [ofVs] at h; subst h; rfl
  | v :: vs, cs, h => by
    simp only [ofVs] at h
    split at h
    · rename_i c cs' e1 e2
      cases h
      exact ⟨v, vs, rfl, ofV_rel e1, ofVs_rel e2⟩
    · cases h
theorem ofPV_rel {M : List Pl} {Z : CS} {w : World} {v : Value} {x : PV} (h : ofPV v = some x) : PRel M Z w x v := by
  unfold ofPV at h
  split at h
  · rename_i vs
    split at h
    · rename_i cs e
      cases h
      exact ⟨vs.toList, by simp, ofVs_rel e⟩
    · cases h
  · split at h
    · rename_i c e
      cases h
      exact ofV_rel e
    · cases h
def opd (T : List (Nat × AV)) : Operand → Option AV
  | .tmp t => tget T t
  | .const v => (ofPV v).map .p
  | .func f => some (.p (.c (.fn f [])))
  | .global _ => none
theorem opd_rel {E : Env} {st : St} {M : List Pl} {Z : CS} {a : Act} {w : World} (hr : Rel E st M Z a w) {x : Operand} {y : AV} (h : opd st.T x = some y) : ARel M Z w y (a.eval x) := by
  cases x with
  | tmp t =>
    obtain ⟨v, hv, hx⟩ := hr.tm t y (tget_mem h)
    simpa [Act.eval, Array.getD_eq_getD_getElem?, hv] using hx
  | const v =>
    simp only [opd, Option.map_eq_some_iff] at h
    obtain ⟨p, hp, rfl⟩ := h
    exact ofPV_rel hp
  | func f =>
    simp only [opd, Option.some.injEq] at h
    subst h
    exact ⟨[], rfl, rfl⟩
  | global g => simp [opd] at h
def exact (T : List (Nat × AV)) (x : Operand) : Value := ((opd T x).bind exA).getD undef
def isExact (T : List (Nat × AV)) (x : Operand) : Bool := ((opd T x).bind exA).isSome
theorem exact_eval {E : Env} {st : St} {M : List Pl} {Z : CS} {a : Act} {w : World} (hr : Rel E st M Z a w) {x : Operand} (h : isExact st.T x = true) : a.eval x = exact st.T x := by
  unfold isExact exact at *
  cases ho : opd st.T x with
  | none => rw [ho] at h; simp at h
  | some y =>
    rw [ho] at h
    simp only [Option.bind_some] at h ⊢
    cases he : exA y with
    | none => rw [he] at h; simp at h
    | some v => rw [exA_rel he (opd_rel hr ho)]; rfl
def evX (P : Program) (T : List (Nat × AV)) (o : Oper) : Option AV :=
  match o.op with
  | .binOp op t x y u =>
    if isExact T x && isExact T y then
      match pureRun P (execOp (exact T) { o with op := .binOp op t x y u }) with | some (.value v) => (ofPV v).map .p | _ => none
    else none
  | .unOp op t x =>
    if isExact T x then
      match pureRun P (execOp (exact T) { o with op := .unOp op t x }) with | some (.value v) => (ofPV v).map .p | _ => none
    else none
  | .convert s d x =>
    if isExact T x then
      match pureRun P (execOp (exact T) { o with op := .convert s d x }) with | some (.value v) => (ofPV v).map .p | _ => none
    else none
  | .call c =>
    match c.callee with
    | .builtin b =>
      if c.args.toList.all (isExact T) then
        match pureRun P (execOp (exact T) { o with op := .call c }) with | some (.value v) => (ofPV v).map .p | _ => none
      else none
    | _ => none
  | _ => none
theorem evX_run {P : Program} {E : Env} (hP : E.P = P) {st : St} {M : List Pl} {Z : CS} {a : Act} {w : World} (hr : Rel E st M Z a w) {o : Oper} {y : AV} (h : evX P st.T o = some y) :
    ∃ v, ARel M Z w y v ∧ ∀ w', (execOp a.eval o).run P w' = .ok (.value v) w' := by
  subst hP
  have fin : ∀ {s : Sem Next}, execOp a.eval o = s → (match pureRun E.P s with | some (.value v) => (ofPV v).map AV.p | _ => none) = some y →
      ∃ v, ARel M Z w y v ∧ ∀ w', (execOp a.eval o).run E.P w' = .ok (.value v) w' := by
    intro s hs h
    split at h
    · rename_i v hv
      simp only [Option.map_eq_some_iff] at h
      obtain ⟨p, hp, rfl⟩ := h
      exact ⟨v, ofPV_rel hp, fun w' => hs ▸ pureRun_run _ hv w'⟩
    · cases h
  unfold evX at h
  split at h
  · rename_i op t x y' u ho
    split at h
    · rename_i hx
      simp only [Bool.and_eq_true] at hx
      refine fin ?_ h
      simp only [execOp, ho, exact_eval hr hx.1, exact_eval hr hx.2]
    · cases h
  · rename_i op t x ho
    split at h
    · rename_i hx
      refine fin ?_ h
      simp only [execOp, ho, exact_eval hr hx]
    · cases h
  · rename_i s d x ho
    split at h
    · rename_i hx
      refine fin ?_ h
      simp only [execOp, ho, exact_eval hr hx]
    · cases h
  · rename_i c ho
    split at h
    · rename_i _ hb
      split at h
      · rename_i hx
        refine fin ?_ h
        have hm : c.args.map a.eval = c.args.map (exact st.T) := by
          apply Array.map_congr_left
          intro x hxm
          exact exact_eval hr (List.all_eq_true.1 hx x (by simpa using hxm))
        simp only [execOp, ho, resolve, hb, hm]
      · cases h
    · cases h
  · cases h
end Go.Proofs.YtmbbapeiikifgaaGreatDoor
