/- More values: lengths, bytes, parts of strings and slices, structs that are built, strings that are joined, quotients. -/
import Derived.Test.YtmbbapeiikifgaaGreatDoorSlGa
import Derived.Laws.Tables
import Derived.Laws.StructEq
namespace Go.Proofs.YtmbbapeiikifgaaGreatDoor
open Go
theorem stepB {P : Program} {α β : Type} (s : Sem α) (f : α → Sem β) {w w' : World} {x : α} (h : s.run P w = .ok x w') : (s >>= f).run P w = (f x).run P w' := run_bind s f h
def bnd (T : List (Nat × AV)) (d : Int) : Option Operand → Option Int
  | none => some d
  | some x => match opd T x with
    | some (.p (.c (.int _ n))) => some n
    | _ => none
def szOk (P : Program) (t : TypeId) (n : Nat) : Bool := match P.info? t with | some i => decide (i.size = n) | none => false
def fillC (place : Nat → Option (Nat × Nat)) : List C → List (Nat × PV) → Option (List C)
  | cs, [] => some cs
  | cs, (i, v) :: rest => match place i with
    | some (off, n) => if (pcells v).length = n ∧ off + n ≤ cs.length then fillC place (splice cs (pcells v) off) rest else none
    | none => none
def placeOf (P : Program) (t : TypeId) : Option (Nat → Option (Nat × Nat)) :=
  match P.underlying t with
  | some (.array _ e) => (P.info? e).map fun ie => fun i => some (i * ie.size, ie.size)
  | some (.struct fs) => (fs.toList.mapM fun f => (P.info? f.type).map fun i => (f.offset, i.size)).map fun pl => fun i => pl[i]?
  | _ => none
def partsOf (T : List (Nat × AV)) : List (Nat × Operand) → Option (List (Nat × PV))
  | [] => some []
  | (i, x) :: r => match opd T x, partsOf T r with
    | some (.p v), some r' => some ((i, v) :: r')
    | _, _ => none
def zeroC (P : Program) (t : TypeId) : Option (List C) :=
  match P.info? t with
  | some i => match i.zero with
    | some z => ofVs z.cells.toList
    | none => none
  | none => none
def eqF (P : Program) (cs ds : List C) : List Field → Option Bool
  | [] => some true
  | f :: fs => if f.name = "_" then none else
    match P.underlying f.type, cs[f.offset]?, ds[f.offset]?, eqF P cs ds fs with
    | some (.int _), some (.int k a), some (.int k' b), some r => if k = k' then some ((a == b) && r) else none
    | some .bool, some (.bool a), some (.bool b), some r => some ((a == b) && r)
    | some .string, some (.str a), some (.str b), some r => some ((a.toList == b.toList) && r)
    | _, _, _, _ => none
def eqOk (P : Program) (t : TypeId) : Bool :=
  match P.underlying t with
  | some (.struct _) => !P.stoodInHeld t && !P.eqGuardType P.depth t
  | _ => false
def evEq (P : Program) (st : St) (o : Oper) (neg : Bool) (t : TypeId) (x y : Operand) : Option VRes :=
  match opd st.T x, opd st.T y with
  | some (.p (.agg cs)), some (.p (.agg ds)) => if eqOk P t then (eqF P cs ds (P.fieldsOf t).toList).map fun b => ⟨.p (.c (.bool (if neg then !b else b))), none, .no⟩ else none
  | some (.p (.c (.er q))), _ => match P.underlying t, y with
    | some (.interface _), .const .nilIface => some ⟨.p (.c (.bool (if neg then q else !q))), none, .no⟩
    | _, _ => none
  | _, _ => (evX P st.T o).map fun y => ⟨y, none, .no⟩
def evZ (P : Program) (st : St) (o : Oper) : Option VRes :=
  match o.op with
  | .binOp .add _ x y _ => match opd st.T x, opd st.T y with
    | some (.p (.c (.str s))), some (.p (.c (.str u))) => some ⟨.p (.c (.str (s ++ u))), some (s.size + u.size ≤ 9223372036854775807), .no⟩
    | _, _ => (evX P st.T o).map fun y => ⟨y, none, .no⟩
  | .binOp .eql t x y _ => evEq P st o false t x y
  | .binOp .neq t x y _ => evEq P st o true t x y
  | .binOp .quo _ x y _ => match opd st.T x, opd st.T y with
    | some (.p (.c (.int k n))), some (.p (.c (.int k' m))) => if k = k' then some ⟨.p (.c (.int k (k.wrap (n.tdiv m)))), some (m ≠ 0), .no⟩ else none
    | _, _ => none
  | .binOp .rem _ x y _ => match opd st.T x, opd st.T y with
    | some (.p (.c (.int k n))), some (.p (.c (.int k' m))) => if k = k' then some ⟨.p (.c (.int k (n.tmod m))), some (m ≠ 0), .no⟩ else none
    | _, _ => none
  | .call c => match c.callee, c.args.toList, c.argTypes.toList with
    | .builtin .len, [x], [t] => match opd st.T x, isSlice P t with
      | some (.p (.c (.vw _ _ xs))), some _ => some ⟨.p (.c (.int .i64 xs.length)), none, .no⟩
      | some (.p (.c (.sl q))), some _ => match st.H[q]? with
        | some (.row _ xs) => some ⟨.p (.c (.int .i64 xs.length)), none, .no⟩
        | _ => none
      | _, _ => (evX P st.T o).map fun y => ⟨y, none, .no⟩
    | _, _, _ => (evX P st.T o).map fun y => ⟨y, none, .no⟩
  | .index t x i => match P.underlying t, opd st.T x, opd st.T i with
    | some .string, some (.p (.c (.str s))), some (.p (.c (.int _ n))) => some ⟨.p (.c (.int .u8 (bt s n))), some (0 ≤ n ∧ n < s.size), .no⟩
    | _, _, _ => none
  | .slice t x lo hi none => match P.underlying t, opd st.T x with
    | some .string, some (.p (.c (.str s))) => match bnd st.T 0 lo, bnd st.T s.size hi with
      | some l, some h => some ⟨.p (.c (.str (s.extract l.toNat h.toNat))), some (0 ≤ l ∧ l ≤ h ∧ h ≤ s.size), .no⟩
      | _, _ => none
    | some (.slice e), some (.p (.c (.vw d t' xs))) => match bnd st.T 0 lo, bnd st.T xs.length hi with
      | some l, some h => if szOk P e t'.sz then some ⟨.p (.c (.vw d t' ((xs.take h.toNat).drop l.toNat))), some (0 ≤ l ∧ l ≤ h ∧ h ≤ xs.length), .no⟩ else none
      | _, _ => none
    | some (.slice e), some (.p (.c (.sl q))) => match st.H[q]? with
      | some (.row t' xs) => match bnd st.T 0 lo, bnd st.T xs.length hi with
        | some l, some h => if szOk P e t'.sz then some ⟨.p (.c (.vw (some q) t' ((xs.take h.toNat).drop l.toNat))), some (0 ≤ l ∧ l ≤ h ∧ h ≤ xs.length), .no⟩ else none
        | _, _ => none
      | _ => none
    | _, _ => none
  | .build t parts => match placeOf P t, zeroC P t, partsOf st.T parts.toList with
    | some pl, some z, some ps => (fillC pl z ps).map fun cs => ⟨.p (.agg cs), none, .no⟩
    | _, _, _ => none
  | _ => (evX P st.T o).map fun y => ⟨y, none, .no⟩
section
variable {E : Env} {st : St} {M : List Pl} {Z : CS} {a : Act} {w : World} {o : Oper} {r : VRes}
theorem evX_ok (hr : Rel E st M Z a w) {y : VRes} (h : (evX E.P st.T o).map (fun y => (⟨y, none, .no⟩ : VRes)) = some y) : VOk E M Z a w o y := by
  simp only [Option.map_eq_some_iff] at h
  obtain ⟨y', hy, rfl⟩ := h
  obtain ⟨v, hrel, hv⟩ := evX_run rfl hr hy
  exact ⟨v, hrel, fun w' _ => hv w'⟩
theorem bnd_spec (hr : Rel E st M Z a w) {d n : Int} {x : Option Operand} (h : bnd st.T d x = some n) : (x = none ∧ n = d) ∨ ∃ y k, x = some y ∧ a.eval y = .int k n := by
  cases x with
  | none => simp only [bnd, Option.some.injEq] at h; exact .inl ⟨rfl, h.symm⟩
  | some y =>
    simp only [bnd] at h
    split at h
    · rename_i k m hy
      cases h
      exact .inr ⟨y, k, rfl, opd_rel hr hy⟩
    · cases h
theorem sliceBounds_run {P : Program} {b : Bool} {len cap : Nat} {lo hi : Option Operand} {l h : Int} {ρ : Operand → Value} (hl : (lo = none ∧ l = 0) ∨ ∃ y k, lo = some y ∧ ρ y = .int k l)
    (hh : (hi = none ∧ h = len) ∨ ∃ y k, hi = some y ∧ ρ y = .int k h) (h0 : 0 ≤ l) (h1 : l ≤ h) (h2 : h ≤ len) (hc : len ≤ cap) (w : World) :
    (Instr.sliceBounds b len cap (lo.map ρ) (hi.map ρ) none).run P w = .ok (l.toNat, h.toNat, cap) w := by
  have hsb : ∀ {k : IntKind} {i : Int} {y : Nat} {code : BoundsCode}, 0 ≤ i → i ≤ y → (Instr.sliceBound (.int k i) y code).run P w = .ok i.toNat w := by
    intro k i y code ha hb
    simp [Instr.sliceBound, asIntOf, ha, hb]
  have hhn : (h.toNat : Int) = h := by omega
  rcases hl with ⟨rfl, rfl⟩ | ⟨y, k, rfl, hy⟩ <;> rcases hh with ⟨rfl, rfl⟩ | ⟨y', k', rfl, hy'⟩
  · simp [Instr.sliceBounds]
  · simp [Instr.sliceBounds, hy', hsb (k := k') (i := h) (y := cap) (by omega) (by omega)]
  · simp [Instr.sliceBounds, hy, hsb (k := k) (i := l) (y := len) (by omega) (by omega)]
  · simp [Instr.sliceBounds, hy, hy', hsb (k := k') (i := h) (y := cap) (by omega) (by omega), hsb (k := k) (i := l) (y := h.toNat) (by omega) (by omega)]
theorem szOk_spec {P : Program} {t : TypeId} {n : Nat} (h : szOk P t n = true) : ∃ i, P.info? t = some i ∧ i.size = n := by
  unfold szOk at h
  split at h
  · rename_i i hi; exact ⟨i, hi, by simpa using h⟩
  · cases h
theorem slice_part {P : Program} {t e : TypeId} (ht : P.underlying t = some (.slice e)) {S : CS} {t' : Ty} (hsz : szOk P e t'.sz = true) {xs : List t'.T} {v : Value} (hv : SlRd S w t' xs v) {lo hi : Option Operand} {l h : Int} {ρ : Operand → Value}
    (hl : (lo = none ∧ l = 0) ∨ ∃ y k, lo = some y ∧ ρ y = .int k l) (hh : (hi = none ∧ h = xs.length) ∨ ∃ y k, hi = some y ∧ ρ y = .int k h) (hc : 0 ≤ l ∧ l ≤ h ∧ h ≤ xs.length) :
    ∃ u, SlRd S w t' ((xs.take h.toNat).drop l.toNat) u ∧ ∀ w', (Instr.sliceAt t v (lo.map ρ) (hi.map ρ) none).run P w' = .ok u w' := by
  obtain ⟨av, cap, rfl, hcap, hrd⟩ := hv
  obtain ⟨i, hi', hs⟩ := szOk_spec hsz
  have hlen : ((xs.take h.toNat).drop l.toNat).length = h.toNat - l.toNat := by simp; omega
  refine ⟨.slice (if cap = l.toNat then av else av.map (·.add (l.toNat * t'.sz))) (h.toNat - l.toNat) (cap - l.toNat), ⟨_, _, by rw [hlen], by rw [hlen]; omega, ?_⟩, fun w' => ?_⟩
  · rcases hrd with rfl | ⟨b, f, rfl, hel⟩
    · exact .inl (by simp)
    · by_cases hcl : cap = l.toNat
      · exact .inl (List.eq_nil_of_length_eq_zero (by rw [hlen]; omega))
      · refine .inr ⟨b, f + l.toNat * t'.sz, by rw [if_neg hcl]; simp [addr_add], fun j x hj => ?_⟩
        rw [List.getElem?_drop] at hj
        have hj2 : l.toNat + j < h.toNat := by have := (List.getElem?_eq_some_iff.1 hj).1; simp at this; omega
        rw [List.getElem?_take_of_lt hj2] at hj
        have := hel _ x hj
        rwa [show f + (l.toNat + j) * t'.sz = f + l.toNat * t'.sz + j * t'.sz from by rw [Nat.add_mul]; omega] at this
  · have hb := sliceBounds_run (P := P) (b := true) (cap := cap) hl hh hc.1 hc.2.1 hc.2.2 hcap w'
    simp [Instr.sliceAt, Instr.slice, underlying, program, Sem.run, ht, hb, run_sizeOf hi', hs]
theorem foldl_set : ∀ (vs : List Value) (k off : Nat) (cs : Array Value), off + k + vs.length ≤ cs.size →
    ((vs.zipIdx k).foldl (fun cs (p : Value × Nat) => cs.setIfInBounds (off + p.2) p.1) cs).toList = cs.toList.take (off + k) ++ vs ++ cs.toList.drop (off + k + vs.length)
  | [], k, off, cs, _ => by simp
  | v :: vs, k, off, cs, h => by
    simp only [List.length_cons] at h
    rw [List.zipIdx_cons, List.foldl_cons, foldl_set vs (k + 1) off _ (by simp; omega)]
    simp only [Array.toList_setIfInBounds]
    apply List.ext_getElem?
    intro i
    have hl : cs.toList.length = cs.size := by simp
    rcases Nat.lt_trichotomy i (off + k) with hi | hi | hi
    · rw [List.append_assoc, List.append_assoc, List.getElem?_append_left (by simp; omega), List.getElem?_append_left (by simp; omega), List.getElem?_take_of_lt (by omega), List.getElem?_take_of_lt hi, List.getElem?_set_ne (by omega)]
    · subst hi
      rw [List.append_assoc, List.append_assoc, List.getElem?_append_left (by simp; omega), List.getElem?_append_right (by simp; omega), List.getElem?_take_of_lt (by omega), List.getElem?_set_self (by omega)]
      have : off + k - (List.take (off + k) cs.toList).length = 0 := by simp; omega
      rw [this]
      simp
    · rcases Nat.lt_or_ge i (off + k + 1 + vs.length) with h2 | h2
      · have e1 : (List.take (off + (k + 1)) (cs.toList.set (off + k) v) ++ vs ++ List.drop (off + (k + 1) + vs.length) (cs.toList.set (off + k) v))[i]? = vs[i - (off + k + 1)]? := by
          have hl1 : (List.take (off + (k + 1)) (cs.toList.set (off + k) v)).length = off + k + 1 := by simp; omega
          rw [List.append_assoc, List.getElem?_append_right (by omega), hl1, List.getElem?_append_left (by omega)]
        have e2 : (List.take (off + k) cs.toList ++ v :: vs ++ List.drop (off + k + (v :: vs).length) cs.toList)[i]? = (v :: vs)[i - (off + k)]? := by
          have hl1 : (List.take (off + k) cs.toList).length = off + k := by simp; omega
          rw [List.append_assoc, List.getElem?_append_right (by omega), hl1, List.getElem?_append_left (by simp; omega)]
        rw [e1, e2, show i - (off + k) = (i - (off + k + 1)) + 1 from by omega]
        simp
      · rw [List.getElem?_append_right (by simp; omega), List.getElem?_append_right (by simp; omega)]
        simp only [List.length_append, List.length_take, List.length_set, hl, List.length_cons, List.getElem?_drop]
        rw [show off + (k + 1) + vs.length + (i - (min (off + (k + 1)) cs.size + vs.length)) = i from by omega, show off + k + (vs.length + 1) + (i - (min (off + k) cs.size + (vs.length + 1))) = i from by omega, List.getElem?_set_ne (by omega)]
theorem fill_rel {place : Nat → Option (Nat × Nat)} : ∀ {ps : List (Nat × PV)} {cs cs' : List C} {vs : Array Value} {us : List (Nat × Value)}, fillC place cs ps = some cs' → CsRel M Z w cs vs.toList →
    (ps.length = us.length ∧ ∀ (j i : Nat) (v : PV), ps[j]? = some (i, v) → ∃ u, us[j]? = some (i, u) ∧ PRel M Z w v u) → ∃ vs', Instr.fill place vs us = some vs' ∧ CsRel M Z w cs' vs'.toList
  | [], cs, cs', vs, us, h, hc, hp => by
    simp only [fillC, Option.some.injEq] at h
    subst h
    have : us = [] := List.eq_nil_of_length_eq_zero (by simpa using hp.1.symm)
    subst this
    exact ⟨vs, rfl, hc⟩
  | (i, v) :: rest, cs, cs', vs, us, h, hc, hp => by
    obtain ⟨hlen, hp⟩ := hp
    cases us with
    | nil => simp at hlen
    | cons u0 us =>
      obtain ⟨u, hu, huv⟩ := hp 0 i v rfl
      simp only [List.getElem?_cons_zero, Option.some.injEq] at hu
      subst hu
      simp only [fillC] at h
      split at h
      · rename_i off n hpl
        split at h
        · rename_i hn
          have hcells := PRel.cells huv
          have hl1 := hcells.len
          have hl2 := hc.len
          simp only [Array.length_toList] at hl1 hl2
          have hfs : ((u.cells.zipIdx).foldl (fun cs (p : Value × Nat) => cs.setIfInBounds (off + p.2) p.1) vs).toList = vs.toList.take off ++ u.cells.toList ++ vs.toList.drop (off + u.cells.toList.length) := by
            have := foldl_set u.cells.toList 0 off vs (by simp; omega)
            simp only [Nat.add_zero] at this
            rw [← this, ← Array.foldl_toList]
            simp
          have hc' : CsRel M Z w (splice cs (pcells v) off) ((u.cells.zipIdx).foldl (fun cs (p : Value × Nat) => cs.setIfInBounds (off + p.2) p.1) vs).toList := by
            rw [hfs]
            unfold splice
            rw [show u.cells.toList.length = (pcells v).length from hcells.len]
            exact ((hc.take off).append hcells).append (hc.drop _)
          obtain ⟨vs', hf, hr⟩ := fill_rel h hc' ⟨by simpa using hlen, fun j i' v' hj => by simpa using hp (j + 1) i' v' (by simpa using hj)⟩
          refine ⟨vs', ?_, hr⟩
          simp only [Instr.fill, hpl]
          rw [if_neg (by simp; omega)]
          exact hf
        · cases h
      · cases h
theorem partsOf_rel (hr : Rel E st M Z a w) : ∀ {xs : List (Nat × Operand)} {ps : List (Nat × PV)}, partsOf st.T xs = some ps →
    ps.length = (xs.map fun p => (p.1, a.eval p.2)).length ∧ ∀ (j i : Nat) (v : PV), ps[j]? = some (i, v) → ∃ u, (xs.map fun p => (p.1, a.eval p.2))[j]? = some (i, u) ∧ PRel M Z w v u
  | [], ps, h => by simp only [partsOf, Option.some.injEq] at h; subst h; simp
  | (i0, x) :: r, ps, h => by
    simp only [partsOf] at h
    split at h
    · rename_i v r' h1 h2
      cases h
      obtain ⟨hl, hg⟩ := partsOf_rel hr h2
      refine ⟨by simp [hl], fun j i v' hj => ?_⟩
      cases j with
      | zero => simp at hj; obtain ⟨rfl, rfl⟩ := hj; exact ⟨a.eval x, by simp, opd_rel hr h1⟩
      | succ j => simpa using hg j i v' (by simpa using hj)
    · cases h
theorem build_ok (hr : Rel E st M Z a w) {t : TypeId} {parts : Array (Nat × Operand)} {pl : Nat → Option (Nat × Nat)} {z cs : List C} {ps : List (Nat × PV)} (hpl : placeOf E.P t = some pl) (hz : zeroC E.P t = some z)
    (hps : partsOf st.T parts.toList = some ps) (hf : fillC pl z ps = some cs) : ∃ vs : List Value, CsRel M Z w cs vs ∧ ∀ w', (Instr.build t (parts.map fun (i, x) => (i, a.eval x))).run E.P w' = .ok (.agg vs.toArray) w' := by
  unfold zeroC at hz
  split at hz
  · rename_i it hit
    split at hz
    · rename_i zv hzv
      obtain ⟨vs', hfill, hrel⟩ := fill_rel (place := pl) (vs := zv.cells) hf (ofVs_rel (M := M) (Z := Z) (w := w) hz) (partsOf_rel hr hps)
      refine ⟨vs'.toList, hrel, fun w' => ?_⟩
      have hb : E.P.built t (parts.map fun (i, x) => (i, a.eval x)).toList = some vs' := by
        unfold placeOf at hpl
        unfold Program.built
        split at hpl
        · rename_i n e hu
          simp only [Option.map_eq_some_iff] at hpl
          obtain ⟨ie, hie, rfl⟩ := hpl
          simp only [hit, hu, hzv, hie]
          simpa using hfill
        · rename_i fs hu
          simp only [Option.map_eq_some_iff] at hpl
          obtain ⟨pls, hpls, rfl⟩ := hpl
          simp only [hit, hu, hzv, hpls]
          simpa using hfill
        · cases hpl
      rw [run_build w' t _ vs' hb]
    · cases hz
  · cases hz
theorem run_part {P : Program} {t : TypeId} {d : TypeDesc} (ht : P.underlying t = some d) (hd : ∀ fs, d ≠ .struct fs) (hd2 : ∀ n e, d ≠ .array n e) {vs : List Value} {i : Nat} {v : Value} (h : vs[i]? = some v) (w : World) : (part t vs.toArray i).run P w = .ok v w := by
  have hf : flat P t = some none := by
    unfold flat
    rw [ht]
    cases d <;> first | rfl | (exfalso; exact hd _ rfl) | (exfalso; exact hd2 _ _ rfl)
  unfold part
  rw [stepB _ _ (run_isAgg hf w)]
  simp [h]
theorem eqF_run {cs ds : List C} {vs us : List Value} (hc : CsRel M Z w cs vs) (hd : CsRel M Z w ds us) (dd : Nat) : ∀ {fs : List Field} {b : Bool}, eqF E.P cs ds fs = some b → ∀ w', (Op.eqFields (dd + 1) vs.toArray us.toArray fs).run E.P w' = .ok b w'
  | [], b, h, w' => by simp only [eqF, Option.some.injEq] at h; subst h; rfl
  | f :: fs, b, h, w' => by
    simp only [eqF] at h
    split at h
    · cases h
    · rename_i hn
      have step : ∀ {d : TypeDesc} {v u : Value} {q r : Bool}, E.P.underlying f.type = some d → (∀ fs, d ≠ .struct fs) → (∀ n e, d ≠ .array n e) → vs[f.offset]? = some v → us[f.offset]? = some u →
          (Op.equalIn (dd + 1) f.type v u).run E.P w' = .ok q w' → (Op.eqFields (dd + 1) vs.toArray us.toArray fs).run E.P w' = .ok r w' → (Op.eqFields (dd + 1) vs.toArray us.toArray (f :: fs)).run E.P w' = .ok (q && r) w' := by
        intro d v u q r hu h1 h2 hv hu' hq hr
        simp only [Op.eqFields, if_pos hn, Sem.run_bind, run_part hu h1 h2 hv, run_part hu h1 h2 hu', Result.andThen_ok, hq]
        cases q
        · simp
        · simp [hr]
      split at h
      · rename_i kk k a k' b' r hu h1 h2 h3
        split at h
        · rename_i hk
          subst hk
          cases h
          obtain ⟨v, hv, hvr⟩ := hc.get h1
          obtain ⟨u, hu', hur⟩ := hd.get h2
          cases hvr; cases hur
          exact step hu (fun _ h => by cases h) (fun _ _ h => by cases h) hv hu' (run_equalIn_int w' dd f.type k kk a b' hu) (eqF_run hc hd dd h3 w')
        · cases h
      · rename_i a b' r hu h1 h2 h3
        cases h
        obtain ⟨v, hv, hvr⟩ := hc.get h1
        obtain ⟨u, hu', hur⟩ := hd.get h2
        cases hvr; cases hur
        exact step hu (fun _ h => by cases h) (fun _ _ h => by cases h) hv hu' (run_equalIn_bool' w' dd f.type a b' hu) (eqF_run hc hd dd h3 w')
      · rename_i a b' r hu h1 h2 h3
        cases h
        obtain ⟨v, hv, hvr⟩ := hc.get h1
        obtain ⟨u, hu', hur⟩ := hd.get h2
        cases hvr; cases hur
        exact step hu (fun _ h => by cases h) (fun _ _ h => by cases h) hv hu' (run_equalIn_string w' dd f.type a b' hu) (eqF_run hc hd dd h3 w')
      · cases h
theorem ifEq1 {P : Program} {t d : TypeId} {z : Value} {ms : Array (String × TypeId)} {n : Nat} (hu : P.underlying t = some (.interface ms)) (w : World) : (Op.equalIn (n + 1) t (.iface d z) .nilIface).run P w = .ok false w := by
  rw [Op.equalIn]
  simp [run_underlying hu]
theorem ifEq2 {P : Program} {t : TypeId} {ms : Array (String × TypeId)} {n : Nat} (hu : P.underlying t = some (.interface ms)) (w : World) : (Op.equalIn (n + 1) t .nilIface .nilIface).run P w = .ok true w := by
  rw [Op.equalIn]
  simp [run_underlying hu]
theorem evEq_ok (hr : Rel E st M Z a w) {neg : Bool} {t u : TypeId} {x y : Operand} (ho : o.op = .binOp (if neg then .neq else .eql) t x y u) (h : evEq E.P st o neg t x y = some r) : VOk E M Z a w o r := by
  unfold evEq at h
  split at h
  · rename_i cs ds hx hy
    split at h
    · rename_i hok
      simp only [Option.map_eq_some_iff] at h
      obtain ⟨b, hb, rfl⟩ := h
      obtain ⟨vs, hxv, hvs⟩ := opd_rel hr hx
      obtain ⟨us, hyv, hus⟩ := opd_rel hr hy
      unfold eqOk at hok
      split at hok
      · rename_i fs hu
        simp only [Bool.and_eq_true, Bool.not_eq_true'] at hok
        have hfo : E.P.fieldsOf t = fs := by simp [Program.fieldsOf, hu]
        have ht : E.P.underlying t = some (.struct (E.P.fieldsOf t)) := by rw [hfo]; exact hu
        have hrun : ∀ w', (Op.equalIn 10000 t (.agg vs.toArray) (.agg us.toArray)).run E.P w' = .ok b w' := fun w' => by
          rw [run_equalIn_struct w' 9999 t _ _ ht hok.1]
          exact eqF_run hvs hus 9998 hb w'
        cases neg
        · refine .plain rfl fun w' => ?_
          have ho' : o.op = .binOp .eql t x y u := ho
          simp only [execOp, ho', hxv, hyv, Sem.run_bind, run_eqGuard_agg w' .eql t x y _ _ hok.2, Result.andThen_ok, run_eql_struct, hrun]
          rfl
        · refine .plain rfl fun w' => ?_
          have ho' : o.op = .binOp .neq t x y u := ho
          simp only [execOp, ho', hxv, hyv, Sem.run_bind, run_eqGuard_agg w' .neq t x y _ _ hok.2, Result.andThen_ok, run_neq_struct, hrun]
          rfl
      · cases hok
    · cases h
  · rename_i q hx
    split at h
    · rename_i ms hu
      cases h
      have hxv := opd_rel hr hx
      have ho' : o.op = .binOp (if neg then .neq else .eql) t x (.const .nilIface) u := ho
      have hiv : ∀ (d : TypeId) z w', (Op.equal t (.iface d z) .nilIface).run E.P w' = .ok false w' := fun d z w' => ifEq1 (n := 9999) hu w'
      have hnv : ∀ w', (Op.equal t .nilIface .nilIface).run E.P w' = .ok true w' := fun w' => ifEq2 (n := 9999) hu w'
      have hev : a.eval (.const Value.nilIface) = .nilIface := rfl
      rcases hxv with ⟨rfl, t', x', hxv⟩ | ⟨rfl, hxv⟩
      · refine .plain rfl fun w' => ?_
        simp only [execOp, ho', hxv, hev, eqGuard_at_iface, Sem.run_bind, Sem.run_pure, Result.andThen_ok]
        cases neg
        · simp only [Bool.false_eq_true, if_false, binOp, Sem.run_bind, hiv, Result.andThen_ok, Sem.run_pure]; rfl
        · simp only [if_true, binOp, Sem.run_bind, hiv, Result.andThen_ok, Sem.run_pure]; rfl
      · refine .plain rfl fun w' => ?_
        simp only [execOp, ho', hxv, hev, eqGuard_nil_constR, Sem.run_bind, Sem.run_pure, Result.andThen_ok]
        cases neg
        · simp only [Bool.false_eq_true, if_false, binOp, Sem.run_bind, hnv, Result.andThen_ok, Sem.run_pure]; rfl
        · simp only [if_true, binOp, Sem.run_bind, hnv, Result.andThen_ok, Sem.run_pure]; rfl
    · cases h
  · exact evX_ok hr h
theorem evZ_ok (hr : Rel E st M Z a w) (h : evZ E.P st o = some r) (hc : met r.c) : VOk E M Z a w o r := by
  unfold evZ at h
  split at h
  · rename_i t x y u ho
    split at h
    · rename_i s u' hx hy
      cases h
      have hxv : a.eval x = .string s := opd_rel hr hx
      have hyv : a.eval y = .string u' := opd_rel hr hy
      have hc' : s.size + u'.size ≤ 9223372036854775807 := hc
      refine .plain rfl fun w' => ?_
      have hmx : IntKind.i64.max = 9223372036854775807 := rfl
      have hn : ¬ ((s.size + u'.size : Nat) : Int) > IntKind.i64.max := by rw [hmx]; omega
      simp [execOp, ho, hxv, hyv, eqGuard, binOp, Op.stringOp, hmx]
      omega
    · exact evX_ok hr h
  · rename_i t x y u ho
    exact evEq_ok (neg := false) hr ho h
  · rename_i t x y u ho
    exact evEq_ok (neg := true) hr ho h
  · rename_i t x y u ho
    split at h
    · rename_i k n k' m hx hy
      split at h
      · rename_i hk
        subst hk
        cases h
        have hxv : a.eval x = .int k n := opd_rel hr hx
        have hyv : a.eval y = .int k m := opd_rel hr hy
        have hc' : m ≠ 0 := hc
        exact .plain rfl fun w' => by simp [execOp, ho, hxv, hyv, eqGuard, binOp, Op.intDiv, hc']
      · cases h
    · cases h
  · rename_i t x y u ho
    split at h
    · rename_i k n k' m hx hy
      split at h
      · rename_i hk
        subst hk
        cases h
        have hxv : a.eval x = .int k n := opd_rel hr hx
        have hyv : a.eval y = .int k m := opd_rel hr hy
        have hc' : m ≠ 0 := hc
        exact .plain rfl fun w' => by simp [execOp, ho, hxv, hyv, eqGuard, binOp, Op.intDiv, hc']
      · cases h
    · cases h
  · rename_i c ho
    split at h
    · rename_i x t hcal hargs htys
      have hlen : ∀ {n : Nat} {av : Option Addr} {cap : Nat} {e : TypeId}, isSlice E.P t = some e → a.eval x = .slice av n cap → ∀ w', (execOp a.eval o).run E.P w' = .ok (.value (.int .i64 n)) w' := by
        intro n av cap e ht hx w'
        have ha : c.args = #[x] := by apply Array.ext'; simpa using hargs
        have hty : c.argTypes = #[t] := by apply Array.ext'; simpa using htys
        simp [execOp, ho, resolve, hcal, ha, hty, invoke, builtin, Builtin.len_, underlying, program, Sem.run, isSlice_spec ht, hx, goInt]
      split at h
      · rename_i d t' xs e hx he
        cases h
        obtain ⟨av, cap, hv, _⟩ := opd_rel hr hx
        exact .plain rfl (hlen he hv)
      · rename_i q e hx he
        split at h
        · rename_i t' xs hH
          cases h
          obtain ⟨p, hp, hv⟩ := opd_rel hr hx
          have hrow : RowOwn w t' xs p := hr.ob q _ p hH hp
          rw [hrow.1] at hv
          exact .plain rfl (hlen he hv)
        · cases h
      · exact evX_ok hr h
    · exact evX_ok hr h
  · rename_i t x i ho
    split at h
    · rename_i s k n hu hx hi
      cases h
      have hxv : a.eval x = .string s := opd_rel hr hx
      have hiv : a.eval i = .int k n := opd_rel hr hi
      have hc' : 0 ≤ n ∧ n < s.size := hc
      have hlt : n.toNat < s.size := by omega
      refine .plain (v := .int .u8 (bt s n)) rfl fun w' => ?_
      have hget : s[n.toNat]? = some (s[n.toNat]'hlt) := by simp [hlt]
      simp [execOp, ho, hxv, hiv, Instr.index, asIntOf, underlying, program, Sem.run, hu, hc'.1, bt, hlt]
    · cases h
  · rename_i t x lo hi ho
    split at h
    · rename_i s hu hx
      split at h
      · rename_i l hh hlo hhi
        cases h
        have hxv : a.eval x = .string s := opd_rel hr hx
        have hc' : 0 ≤ l ∧ l ≤ hh ∧ hh ≤ s.size := hc
        refine .plain rfl fun w' => ?_
        have hb := sliceBounds_run (P := E.P) (b := false) (len := s.size) (cap := s.size) (bnd_spec hr hlo) (bnd_spec hr hhi) hc'.1 hc'.2.1 hc'.2.2 (Nat.le_refl _) w'
        simp [execOp, ho, hxv, Instr.sliceAt, Instr.slice, underlying, program, Sem.run, hu, hb]
      · cases h
    · rename_i e d t' xs hu hx
      split at h
      · rename_i l hh hlo hhi
        split at h
        · rename_i hsz
          cases h
          obtain ⟨u, hur, hrun⟩ := slice_part hu hsz (opd_rel hr hx) (bnd_spec hr hlo) (bnd_spec hr hhi) hc
          exact .plain hur fun w' => by simp [execOp, ho, hrun w']
        · cases h
      · cases h
    · rename_i e q hu hx
      split at h
      · rename_i t' xs hH
        split at h
        · rename_i l hh hlo hhi
          split at h
          · rename_i hsz
            cases h
            obtain ⟨p, hp, hv⟩ := opd_rel hr hx
            have hrow : RowOwn w t' xs p := hr.ob q _ p hH hp
            have hrd : SlRd (zone M Z (some q)) w t' xs (a.eval x) := by rw [hv]; exact hrow.rd.mono fun k j hs => ⟨p, hp, hs⟩
            obtain ⟨u, hur, hrun⟩ := slice_part hu hsz hrd (bnd_spec hr hlo) (bnd_spec hr hhi) hc
            exact .plain hur fun w' => by simp [execOp, ho, hrun w']
          · cases h
        · cases h
      · cases h
    · cases h
  · rename_i t parts ho
    split at h
    · rename_i pl z ps hpl hz hps
      simp only [Option.map_eq_some_iff] at h
      obtain ⟨cs, hcs, rfl⟩ := h
      obtain ⟨vs, hvs, hrun⟩ := build_ok hr hpl hz hps hcs
      exact .plain ⟨vs, rfl, hvs⟩ fun w' => by simp [execOp, ho, hrun w']
    · cases h
  · exact evX_ok hr h
end
end Go.Proofs.YtmbbapeiikifgaaGreatDoor
