/- Rules for the forms of control: one step each; an operation of a region; a call's beginning and end. -/
import Derived.Test.YtmbbapeiikifgaaGreatDoorSlCc
namespace Go.Proofs.YtmbbapeiikifgaaGreatDoor
open Go
theorem Ter.of_step {E : Env} {cs : List Frame} {todo todo' : List Item} {a a' : Act} {w w' : World}
    (h : step E.P (lone (E.b.at a todo) cs w) = .next (lone (E.b.at a' todo') cs w')) (ht : Ter E cs todo' a' w') : Ter E cs todo a w := by
  obtain ⟨e, w1, fr, hR, hc, hf, hl⟩ := ht
  exact ⟨e, w1, fr, hR, .of_steps (.one h) hc, hf, hl⟩
theorem Ter.of_steps {E : Env} {cs : List Frame} {todo todo' : List Item} {a a' : Act} {w w' : World}
    (h : Steps E.P (lone (E.b.at a todo) cs w) (lone (E.b.at a' todo') cs w')) (ht : Ter E cs todo' a' w') : Ter E cs todo a w := by
  obtain ⟨e, w1, fr, hR, hc, hf, hl⟩ := ht
  exact ⟨e, w1, fr, hR, .of_steps h hc, hf, hl⟩
section
variable {E : Env} {k : List Item} {st : St}
theorem WT.seq {x y : Code} (h : WT E (.code x :: .code y :: k) st) : WT E (.code (.seq x y) :: k) st :=
  fun M Z a w hr cs => .of_step step_seq (h M Z a w hr cs)
theorem WT.skip (h : WT E k st) : WT E (.code .skip :: k) st := fun M Z a w hr cs => .of_step step_skip (h M Z a w hr cs)
theorem WT.inBlock {id : Nat} (h : WT E k st) : WT E (.inBlock id :: k) st := fun M Z a w hr cs => .of_step step_inBlock (h M Z a w hr cs)
theorem WT.block {id : Nat} {c : Code} (h : WT E (.code c :: .inBlock id :: k) st) : WT E (.code (.block id c) :: k) st :=
  fun M Z a w hr cs => .of_step step_block (h M Z a w hr cs)
theorem WT.inLoop {c : Code} (h : WT E (.code c :: .inLoop c :: k) st) : WT E (.inLoop c :: k) st :=
  fun M Z a w hr cs => .of_step step_inLoop (h M Z a w hr cs)
theorem WT.loop {c : Code} (h : WT E (.code c :: .inLoop c :: k) st) : WT E (.code (.loop c) :: k) st :=
  fun M Z a w hr cs => .of_step step_loop (h M Z a w hr cs)
theorem WT.exit {id : Nat} {k' : List Item} (hx : exitTo id k = some k') (h : WT E k' st) : WT E (.code (.exit id) :: k) st :=
  fun M Z a w hr cs => .of_step (step_exit hx) (h M Z a w hr cs)
theorem WT.loops {c : Code} {α β : Type} {S : α → St} {l : Nat → α → Option β} {r : β} (h0 : ∀ x, l 0 x = none)
    (hs : ∀ n x, (∀ x', l n x' = some r → WT E (.inLoop c :: k) (S x')) → l (n + 1) x = some r → WT E (.code c :: .inLoop c :: k) (S x)) :
    ∀ n x, l n x = some r → WT E (.code (.loop c) :: k) (S x) := by
  have key : ∀ n x, l n x = some r → WT E (.inLoop c :: k) (S x) := by
    intro n
    induction n with
    | zero => intro x h; rw [h0] at h; cases h
    | succ n ih => exact fun x h => .inLoop (hs n x ih h)
  intro n x h
  cases n with
  | zero => rw [h0] at h; cases h
  | succ n => exact .loop (hs n x (key n) h)
theorem WT.weak {st' : St} (hw : ∀ M Z a w, Rel E st M Z a w → ∃ M' Z', Rel E st' M' Z' a w) (h : WT E k st') : WT E k st :=
  fun M Z a w hr cs => let ⟨M', Z', hr'⟩ := hw M Z a w hr; h M' Z' a w hr' cs
end
theorem Ter.op {E : Env} {ops : Array Oper} {i : Nat} {rest : List Nat} {k : List Item} {cs : List Frame} {a : Act} {w : World} {o : Oper}
    (ho : ops[i]? = some o) (hw : Region.wanted o (yielded ops a.tmps) = true)
    (h : o.wp E.P a w (fun a' w' => Ter E cs (.inRegion ops rest :: k) a' w') (fun _ _ _ => False)) : Ter E cs (.inRegion ops (i :: rest) :: k) a w := by
  have hg := stepG_op (P := E.P) (b := E.b) (k := k) (cs := cs) (w := w) (rest := rest) ho hw
  have hfin : ∀ v, (E.b.at a (.inRegion ops (i :: rest) :: k)).finish v = E.b.at (a.put o.dst v) (.inRegion ops rest :: k) := by
    intro v; rw [Frame.finish_at, ho]; rfl
  simp only [Oper.wp, Oper.upon] at h
  split at h
  · rename_i v w' hr
    refine .of_step (step_lone_go ?_) h
    rw [hg, ← hfin]; simp [stepG.apply, hr]
  · rename_i w' hr
    refine .of_step (step_lone_go ?_) h
    rw [hg, ← hfin]; simp [stepG.apply, hr]
  · rename_i d w' hr
    refine .of_step (step_lone_go ?_) h
    have : ({ E.b.at a (.inRegion ops (i :: rest) :: k) with defers := d :: a.defers } : Frame).finish undef =
        E.b.at ({ a with defers := d :: a.defers }.put o.dst undef) (.inRegion ops rest :: k) := by
      have := Frame.finish_at E.b { a with defers := d :: a.defers } ops i rest k undef
      rw [ho] at this; exact this
    rw [hg]; simp only [stepG.apply, Sem.runT_eq, hr, GStep.bare_after]
    exact congrArg (fun fr => GStep.go { frame := fr, callers := cs, status := .running, dying := none } w') this
  · rename_i f args w' hr
    obtain ⟨e, w'', fr, hR, hsteps, _, hleave⟩ := h (E.b.at a (.inRegion ops (i :: rest) :: k) :: cs)
    have henter : step E.P (lone (E.b.at a (.inRegion ops (i :: rest) :: k)) cs w) =
        .next (lone (Frame.enter E.P f args .normal) (E.b.at a (.inRegion ops (i :: rest) :: k) :: cs) w') :=
      step_lone_go (by rw [hg]; simp [stepG.apply, hr, Frame.at, Env.b])
    cases e with
    | returned v =>
      refine .of_steps (.head henter (Steps.trans hsteps (.one ?_))) hR
      rw [← hfin]; exact step_leave_returned hleave
    | panicked chain => exact hR.elim
    | outgrown => obtain ⟨_, _, hq⟩ := hR; exact hq.elim
  · rename_i row args w' hr
    obtain ⟨v, w'', hR, hsteps⟩ := h (E.b.at a (.inRegion ops (i :: rest) :: k)) cs
    have henter : step E.P (lone (E.b.at a (.inRegion ops (i :: rest) :: k)) cs w) =
        .next (lone (Frame.ofRow E.P row args .normal) (E.b.at a (.inRegion ops (i :: rest) :: k) :: cs) w') :=
      step_lone_go (by rw [hg]; simp [stepG.apply, hr, Frame.at, Env.b])
    refine .of_steps (.head henter ?_) hR
    rw [← hfin]; exact hsteps
  · exact h.elim
  · exact h.elim
theorem Ter.opSkip {E : Env} {ops : Array Oper} {i : Nat} {rest : List Nat} {k : List Item} {cs : List Frame} {a : Act} {w : World} {o : Oper}
    (ho : ops[i]? = some o) (hw : Region.wanted o (yielded ops a.tmps) = false)
    (h : Ter E cs (.inRegion ops rest :: k) (a.put o.dst undef) w) : Ter E cs (.inRegion ops (i :: rest) :: k) a w := by
  have hs := step_op_skip (P := E.P) (b := E.b) (a := a) (k := k) (cs := cs) (w := w) (ops := ops) (i := i) (rest := rest) (by simp [ho, hw])
  simp only [ho, Option.bind_some] at hs
  exact .of_step hs h
theorem WT.region {E : Env} {k : List Item} {st : St} {id : Nat} {ops : Array Oper} (h : WT E (.inRegion ops (List.range ops.size) :: k) st) :
    WT E (.code (.region id ops false) :: k) st := fun M Z a w hr cs => .of_step step_region (h M Z a w hr cs)
theorem WT.regionEnd {E : Env} {k : List Item} {st : St} {ops : Array Oper} (h : WT E k st) : WT E (.inRegion ops [] :: k) st :=
  fun M Z a w hr cs => .of_step step_region_end (h M Z a w hr cs)
theorem WT.draws {E : Env} {k : List Item} {st : St} {id : Nat} {ops : Array Oper} (hm : E.P.follows .mixedOrders = true)
    (h : ∀ M Z a w, Rel E st M Z a w → ∃ S : World → Prop, wpAnyH E.P .any ops (fun e a' w' => e = .normal ∧ ∀ cs, Ter E cs k a' w') S ops.size (Array.replicate ops.size false) a w) :
    WT E (.code (.region id ops true) :: k) st := by
  intro M Z a w hr cs
  have hk : Keep w { w with drawn := w.drawn + 1 } (fun _ _ => False) := ⟨rfl, rfl, rfl, Nat.le_refl _, fun _ _ => .inl rfl⟩
  obtain ⟨S, hS⟩ := h M Z a _ (hr.world hk)
  obtain ⟨e, a', w', ⟨rfl, hq⟩, harr⟩ := wp_region_held (Q := fun e a' w' => e = .normal ∧ ∀ cs, Ter E cs k a' w') (id := id) hm hS E.b k cs
  exact .of_steps harr (hq cs)
theorem calls_of_ter {E : Env} {fn : Func} {c : Code} {args : Array Value} (hf : E.P.funcs[E.f]? = some fn) (hb : fn.body = some c)
    (h : ∀ cs, Ter E cs [.code c] { tmps := args ++ Array.replicate (fn.ntmps - args.size) undef, defers := [] } E.w0) : Calls E.P E.f args E.w0 E.R := by
  intro cs
  have henter : Frame.enter E.P E.f args .normal = E.b.at { tmps := args ++ Array.replicate (fn.ntmps - args.size) undef, defers := [] } [.code c] := by
    simp [Frame.enter, Frame.at, hf, hb, Env.b]
  obtain ⟨e, w', fr, hR, hc, hfn, hl⟩ := h cs
  exact ⟨e, w', fr, hR, by rw [henter]; exact hc, hfn, hl⟩
theorem Ter.ret {E : Env} {fn : Func} (hf : E.P.funcs[E.f]? = some fn) {k : List Item} {cs : List Frame} {a : Act} {w : World} (hd : a.defers = []) {v : Value}
    (hv : (results fn a.tmps).run E.P w = .ok v w) (hR : E.R (.returned v) w) : Ter E cs (.code .ret :: k) a w :=
  ⟨.returned v, w, { E.b.at a (.code .ret :: k) with mode := .returning }, hR, Steps.one step_ret, rfl, rfl, hd, rfl, fn, hf, hv⟩
theorem Ter.fall {E : Env} {fn : Func} (hf : E.P.funcs[E.f]? = some fn) {cs : List Frame} {a : Act} {w : World} (hd : a.defers = []) {v : Value}
    (hv : (results fn a.tmps).run E.P w = .ok v w) (hR : E.R (.returned v) w) : Ter E cs [] a w :=
  ⟨.returned v, w, { E.b.at a [] with mode := .returning }, hR, Steps.one step_end, rfl, rfl, hd, rfl, fn, hf, hv⟩
end Go.Proofs.YtmbbapeiikifgaaGreatDoor
