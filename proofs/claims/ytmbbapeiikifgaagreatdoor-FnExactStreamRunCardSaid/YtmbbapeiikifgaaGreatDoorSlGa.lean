/- The value of an operation that writes nothing: reads, places, parts. -/
import Derived.Test.YtmbbapeiikifgaaGreatDoorSlF
import Derived.Laws.Sem
namespace Go.Proofs.YtmbbapeiikifgaaGreatDoor
open Go
inductive Rd where
  | no | cells (o j n : Nat) | dep (d : Option Nat)
  deriving DecidableEq
def Rd.set (M : List Pl) (Z : CS) : Rd → CS
  | .no => fun _ _ => False
  | .cells o j n => fun k x => ∃ p b f, M[o]? = some p ∧ p.av = some ⟨b, f, none⟩ ∧ k = b ∧ f + j ≤ x ∧ x < f + j + n
  | .dep d => zone M Z d
structure VRes where
  y : AV
  c : Option Prop
  rd : Rd
def met : Option Prop → Prop
  | none => True
  | some c => c
inductive Wit where
  | el (t : Ty) (x : t.T)
def at? {α : Type} (xs : List α) (i : Int) : Option α := if 0 ≤ i then xs[i.toNat]? else none
def bt (s : ByteArray) (i : Int) : Int := if h : i.toNat < s.size then ((s[i.toNat]'h).toNat : Int) else 0
def fieldOff (P : Program) (s : TypeId) (f : Nat) : Option Nat :=
  match P.underlying s with
  | some (.struct fs) => match fs[f]? with
    | some fd => match P.info? fd.type with
      | some i => if i.size = 0 then none else some fd.offset
      | none => none
    | none => none
  | _ => none
def sliceCells (fl : Option Nat) (cs : List C) (j : Nat) : Option PV :=
  match fl with
  | none => (cs[j]?).map .c
  | some n => if j + n ≤ cs.length then some (.agg ((cs.drop j).take n)) else none
def widthOf : Option Nat → Nat
  | none => 1
  | some n => n
def ptrsOf (T : List (Nat × AV)) : List Operand → Option (List (Nat × Nat))
  | [] => some []
  | x :: xs => match opd T x, ptrsOf T xs with
    | some (.p (.c (.ptr o j))), some r => some ((o, j) :: r)
    | _, _ => none
def isSlice (P : Program) (t : TypeId) : Option TypeId :=
  match P.underlying t with | some (.slice e) => some e | _ => none
def evLoad (P : Program) (st : St) (t : TypeId) (x : Operand) : Option VRes :=
  match flat P t, opd st.T x with
  | some fl, some (.p (.c (.ptr o j))) => match st.H[o]? with
    | some (.box cs) => (sliceCells fl cs j).map fun v => ⟨.p v, none, .cells o j (widthOf fl)⟩
    | _ => none
  | some fl, some (.p (.c (.vp d t' x j))) => (sliceCells fl (encC d t' x) j).map fun v => ⟨.p v, none, .dep d⟩
  | some fl, some (.p (.c (.ep o _ t' x j))) => (sliceCells fl (encC (some o) t' x) j).map fun v => ⟨.p v, none, .dep (some o)⟩
  | _, _ => none
def evIndexAddr (P : Program) (st : St) (wit : Option Wit) (t : TypeId) (x i : Operand) : Option VRes :=
  match isSlice P t, opd st.T i, wit with
  | some e, some (.p (.c (.int _ n))), some (.el tw y) =>
    match P.info? e, opd st.T x with
    | some inf, some (.p (.c (.vw d t' xs))) =>
      if h : tw = t' then if inf.size = t'.sz then some ⟨.p (.c (.vp d t' (h ▸ y) 0)), some (at? xs n = some (h ▸ y)), .no⟩ else none else none
    | some inf, some (.p (.c (.sl o))) => match st.H[o]? with
      | some (.row t' xs) => if h : tw = t' then if inf.size = t'.sz then some ⟨.p (.c (.ep o n.toNat t' (h ▸ y) 0)), some (at? xs n = some (h ▸ y)), .no⟩ else none else none
      | _ => none
    | _, _ => none
  | _, _, _ => none
def VOk (E : Env) (M : List Pl) (Z : CS) (a : Act) (w : World) (o : Oper) (r : VRes) : Prop :=
  ∃ v, ARel M Z w r.y v ∧ ∀ w' : World, (∀ k j u, r.rd.set M Z k j → w.cell? ⟨k, j, none⟩ = some u → w'.cell? ⟨k, j, none⟩ = some u) → (execOp a.eval o).run E.P w' = .ok (.value v) w'
section
variable {E : Env} {st : St} {M : List Pl} {Z : CS} {a : Act} {w : World} {o : Oper} {r : VRes}
theorem VOk.plain {v : Value} (h : ARel M Z w r.y v) (hr : ∀ w', (execOp a.eval o).run E.P w' = .ok (.value v) w') : VOk E M Z a w o r := ⟨v, h, fun w' _ => hr w'⟩
theorem CsRel.get {cs : List C} {vs : List Value} (h : CsRel M Z w cs vs) : ∀ {i : Nat} {c : C}, cs[i]? = some c → ∃ v, vs[i]? = some v ∧ CRel M Z w c v := by
  induction cs generalizing vs with
  | nil => intro i c hc; simp at hc
  | cons c0 cs ih =>
    intro i c hc
    obtain ⟨v, r, rfl, h1, h2⟩ := h
    cases i with
    | zero => simp at hc; subst hc; exact ⟨v, rfl, h1⟩
    | succ i => simpa using ih h2 (by simpa using hc)
theorem CsRel.drop {cs : List C} {vs : List Value} (h : CsRel M Z w cs vs) (n : Nat) : CsRel M Z w (cs.drop n) (vs.drop n) := by
  induction cs generalizing vs n with
  | nil => simp [CsRel] at h; subst h; simp [CsRel]
  | cons c0 cs ih =>
    cases n with
    | zero => simpa using h
    | succ n => obtain ⟨v, r, rfl, h1, h2⟩ := h; simpa using ih h2 n
theorem CsRel.take {cs : List C} {vs : List Value} (h : CsRel M Z w cs vs) (n : Nat) : CsRel M Z w (cs.take n) (vs.take n) := by
  induction cs generalizing vs n with
  | nil => simp [CsRel] at h; subst h; simp [CsRel]
  | cons c0 cs ih =>
    cases n with
    | zero => simp [CsRel]
    | succ n => obtain ⟨v, r, rfl, h1, h2⟩ := h; exact ⟨v, r.take n, by simp, h1, ih h2 n⟩
theorem load_ok {t : TypeId} {x : Operand} (ho : o.op = .load t x) {fl : Option Nat} (hf : flat E.P t = some fl) {b f j : Nat} (hx : a.eval x = .pointer (some ⟨b, f + j, none⟩))
    {cs : List C} {vs : List Value} (hc : CsRel M Z w cs vs) {rd : Rd}
    (hcell : ∀ i v, vs[i]? = some v → w.cell? ⟨b, f + i, none⟩ = some v) (hrd : ∀ i, j ≤ i → i < j + widthOf fl → i < cs.length → rd.set M Z b (f + i)) {v : PV} (hs : sliceCells fl cs j = some v) :
    VOk E M Z a w o ⟨.p v, none, rd⟩ := by
  cases fl with
  | none =>
    simp only [sliceCells, Option.map_eq_some_iff] at hs
    obtain ⟨c, hj, rfl⟩ := hs
    obtain ⟨u, hu, hr⟩ := hc.get hj
    refine ⟨u, hr, fun w' hw => ?_⟩
    have := hw b (f + j) u (hrd j (Nat.le_refl _) (by simp [widthOf]) (List.getElem?_eq_some_iff.1 hj).1) (hcell j u hu)
    simp [execOp, ho, Instr.loadAt, hx, Instr.sureAddr, run_loadVar_cell hf this]
  | some n =>
    simp only [sliceCells] at hs
    split at hs
    · rename_i hn
      cases hs
      have hlen := hc.len
      refine ⟨.agg ((vs.drop j).take n).toArray, ⟨_, rfl, (hc.drop j).take n⟩, fun w' hw => ?_⟩
      have hl : ((vs.drop j).take n).length = n := by simp; omega
      have := run_loadVar_agg (w := w') hf hl (b := b) (f := f + j) fun i v hi => by
        have hi' := (List.getElem?_eq_some_iff.1 hi).1
        rw [hl] at hi'
        rw [List.getElem?_take_of_lt hi', List.getElem?_drop] at hi
        rw [Nat.add_assoc]
        exact hw b (f + (j + i)) v (hrd (j + i) (by omega) (by simp [widthOf]; omega) (by omega)) (hcell (j + i) v hi)
      simp [execOp, ho, Instr.loadAt, hx, Instr.sureAddr, this]
    · cases hs
theorem ptrsOf_rel (hr : Rel E st M Z a w) : ∀ {xs : List Operand} {cs : List (Nat × Nat)}, ptrsOf st.T xs = some cs → CapsRel M cs (xs.map a.eval)
  | [], cs, h => by simp [ptrsOf] at h; subst h; rfl
  | x :: xs, cs, h => by
    simp only [ptrsOf] at h
    split at h
    · rename_i o j r e1 e2
      cases h
      obtain ⟨p, b, f, hp, ha, hv⟩ := opd_rel hr e1
      exact ⟨p, b, f, xs.map a.eval, by simp [hv], hp, ha, ptrsOf_rel hr e2⟩
    · cases h
theorem evLoad_ok (hr : Rel E st M Z a w) {t : TypeId} {x : Operand} (ho : o.op = .load t x) (h : evLoad E.P st t x = some r) : VOk E M Z a w o r := by
  unfold evLoad at h
  split at h
  · rename_i fl o' j hf hx
    split at h
    · rename_i cs hH
      simp only [Option.map_eq_some_iff] at h
      obtain ⟨v, hv, rfl⟩ := h
      obtain ⟨p, b, f, hp, ha, hev⟩ := opd_rel hr hx
      obtain ⟨b', f', ha', hS, _, vs, hc, hcell⟩ := hr.ob o' _ p hH hp
      rw [ha] at ha'; cases ha'
      exact load_ok (rd := .cells o' j (widthOf fl)) ho hf hev hc hcell (fun i h1 h2 h3 => ⟨p, b, f, hp, ha, rfl, by omega, by omega⟩) hv
    · cases h
  · rename_i fl d t' y j hf hx
    simp only [Option.map_eq_some_iff] at h
    obtain ⟨v, hv, rfl⟩ := h
    obtain ⟨b, f, he, hev⟩ := opd_rel hr hx
    obtain ⟨vs, hc, hcell⟩ := he.cells
    exact load_ok (rd := .dep d) ho hf hev hc (fun i v hi => (hcell i v hi).1) (fun i _ _ h3 => by
      obtain ⟨u, hu⟩ : ∃ u, vs[i]? = some u := ⟨vs[i]'(by rw [hc.len]; exact h3), by simp [hc.len, h3]⟩
      exact (hcell i u hu).2) hv
  · rename_i fl o' i' t' y j hf hx
    simp only [Option.map_eq_some_iff] at h
    obtain ⟨v, hv, rfl⟩ := h
    obtain ⟨p, b, hp, ha, hi, he, hev⟩ := opd_rel hr hx
    have he' : ElemRd (zone M Z (some o')) w t' y b (i' * t'.sz) := he.mono fun k j hs => ⟨p, hp, hs⟩
    obtain ⟨vs, hc, hcell⟩ := he'.cells
    exact load_ok (rd := .dep (some o')) ho hf hev hc (fun i v hi => (hcell i v hi).1) (fun i _ _ h3 => by
      obtain ⟨u, hu⟩ : ∃ u, vs[i]? = some u := ⟨vs[i]'(by rw [hc.len]; exact h3), by simp [hc.len, h3]⟩
      exact (hcell i u hu).2) hv
  · cases h
theorem fieldOff_run {P : Program} {s : TypeId} {f n : Nat} (h : fieldOff P s f = some n) (b g : Nat) (w : World) :
    (Instr.fieldAt s (.pointer (some ⟨b, g, none⟩)) f).run P w = .ok (.pointer (some ⟨b, g + n, none⟩)) w := by
  unfold fieldOff at h
  split at h
  · rename_i fs hu
    split at h
    · rename_i fd hf
      split at h
      · rename_i i hi
        split at h
        · cases h
        · rename_i hz
          cases h
          simp [Instr.fieldAt, underlying, program, Sem.run, hu, hf, Instr.sureAddr, fieldPlace, run_sizeOf hi, hz, addr_add]
      · cases h
    · cases h
  · cases h
theorem at?_some {α : Type} {xs : List α} {i : Int} {x : α} (h : at? xs i = some x) : 0 ≤ i ∧ xs[i.toNat]? = some x ∧ i < xs.length := by
  unfold at? at h
  split at h
  · rename_i h0
    have := (List.getElem?_eq_some_iff.1 h).1
    exact ⟨h0, h, by omega⟩
  · cases h
theorem isSlice_spec {P : Program} {t e : TypeId} (h : isSlice P t = some e) : P.underlying t = some (.slice e) := by
  unfold isSlice at h
  split at h
  · rename_i e' hu; cases h; exact hu
  · cases h
theorem indexAt_run {P : Program} {t e : TypeId} (ht : P.underlying t = some (.slice e)) {inf : TypeInfo} (hi : P.info? e = some inf) {b f len cap : Nat} {k : IntKind} {n : Int} (h0 : 0 ≤ n) (h1 : n < len) (w : World) :
    (Instr.indexAt t (.slice (some ⟨b, f, none⟩) len cap) (.int k n)).run P w = .ok (.pointer (some ⟨b, f + n.toNat * inf.size, none⟩)) w := by
  simp [Instr.indexAt, asIntOf, underlying, program, Sem.run, ht, h0, h1, run_sizeOf hi, addr_add]
theorem evIndexAddr_ok (hr : Rel E st M Z a w) {wit : Option Wit} {t : TypeId} {x i : Operand} (ho : o.op = .indexAddr t x i) (h : evIndexAddr E.P st wit t x i = some r) (hc : met r.c) : VOk E M Z a w o r := by
  unfold evIndexAddr at h
  split at h
  · rename_i e k n tw y he hi
    have hte := isSlice_spec he
    have hiv : a.eval i = .int k n := opd_rel hr hi
    split at h
    · rename_i inf d t' xs hinf hx
      split at h
      · rename_i heq
        subst heq
        split at h
        · rename_i hsz
          cases h
          obtain ⟨h0, hget, hlt⟩ := at?_some hc
          obtain ⟨av, cap, hev, hl, hrd⟩ := opd_rel hr hx
          rcases hrd with rfl | ⟨b, f, rfl, hel⟩
          · simp at hget
          · refine .plain ⟨b, f + n.toNat * tw.sz, hel _ _ hget, rfl⟩ fun w' => ?_
            have := indexAt_run hte hinf (b := b) (f := f) (cap := cap) (k := k) h0 hlt w'
            rw [hsz] at this
            simp [execOp, ho, hev, hiv, this]
        · cases h
      · cases h
    · rename_i inf o' hinf hx
      split at h
      · rename_i t' xs hH
        split at h
        · rename_i heq
          subst heq
          split at h
          · rename_i hsz
            cases h
            obtain ⟨h0, hget, hlt⟩ := at?_some hc
            obtain ⟨p, hp, hev⟩ := opd_rel hr hx
            have hrow : RowOwn w tw xs p := hr.ob o' _ p hH hp
            have hlen : p.len = xs.length := hrow.1
            rcases hrow.2 with ⟨_, _, rfl, _⟩ | ⟨g, cur, e', ha, hg, hcs, hcap, Ss, hel, hdd, hgg, hS⟩
            · simp at hget
            · refine .plain ⟨p, g, hp, ha, by omega, ?_, rfl⟩ fun w' => ?_
              · exact (hel _ _ hget).rd (fun j _ _ => (hS g j).2 (.inl rfl)) fun k j hk => (hS k j).2 (.inr ⟨_, (List.getElem?_eq_some_iff.1 hget).1, hk⟩)
              · have := indexAt_run hte hinf (b := g) (f := 0) (len := p.len) (cap := p.cap) (k := k) h0 (by omega) w'
                rw [hsz] at this
                simp [execOp, ho, hev, ha, hiv, this]
          · cases h
        · cases h
      · cases h
    · cases h
  · cases h
theorem PsRel.get {cs : List PV} {vs : List Value} (h : PsRel M Z w cs vs) : ∀ {i : Nat} {c : PV}, cs[i]? = some c → ∃ v, vs[i]? = some v ∧ PRel M Z w c v := by
  induction cs generalizing vs with
  | nil => intro i c hc; simp at hc
  | cons c0 cs ih =>
    intro i c hc
    obtain ⟨v, r, rfl, h1, h2⟩ := h
    cases i with
    | zero => simp at hc; subst hc; exact ⟨v, rfl, h1⟩
    | succ i => simpa using ih h2 (by simpa using hc)
end
def Value.one : Value → Bool
  | .agg _ | .tuple _ => false
  | _ => true
theorem CRel.one {M : List Pl} {Z : CS} {w : World} {c : C} {v : Value} (h : CRel M Z w c v) : Value.one v = true := by
  cases c with
  | ptr => obtain ⟨_, _, _, _, _, rfl⟩ := h; rfl
  | ep => obtain ⟨_, _, _, _, _, _, rfl⟩ := h; rfl
  | vp => obtain ⟨_, _, _, rfl⟩ := h; rfl
  | sl => obtain ⟨_, _, rfl⟩ := h; rfl
  | vw => obtain ⟨_, _, rfl, _⟩ := h; rfl
  | ifc => obtain ⟨_, _, rfl⟩ := h; rfl
  | fn => obtain ⟨_, rfl, _⟩ := h; rfl
  | mp => obtain ⟨_, _, _, _, rfl⟩ := h; rfl
  | er => rcases h with ⟨_, _, _, rfl⟩ | ⟨_, rfl⟩ <;> rfl
  | _ => subst h; rfl
def pcells : PV → List C
  | .c x => [x]
  | .agg xs => xs
theorem PRel.cells {M : List Pl} {Z : CS} {w : World} {x : PV} {v : Value} (h : PRel M Z w x v) : CsRel M Z w (pcells x) v.cells.toList := by
  cases x with
  | c x =>
    have h1 := CRel.one h
    have : v.cells.toList = [v] := by cases v <;> simp [Value.one] at h1 <;> simp [Value.cells]
    rw [this]
    exact ⟨v, [], rfl, h, rfl⟩
  | agg xs =>
    obtain ⟨vs, rfl, hr⟩ := h
    simpa [Value.cells, pcells] using hr
theorem CsRel.ones {M : List Pl} {Z : CS} {w : World} : ∀ {cs : List C} {vs : List Value}, CsRel M Z w cs vs → ∀ v, v ∈ vs → Value.one v = true
  | [], _, h, v, hv => by simp [CsRel] at h; subst h; simp at hv
  | _ :: _, _, ⟨u, r, hu, h1, h2⟩, v, hv => by
    subst hu
    rcases List.mem_cons.1 hv with rfl | hv
    · exact h1.one
    · exact h2.ones v hv
def splice (cs ds : List C) (j : Nat) : List C := cs.take j ++ ds ++ cs.drop (j + ds.length)
end Go.Proofs.YtmbbapeiikifgaaGreatDoor
