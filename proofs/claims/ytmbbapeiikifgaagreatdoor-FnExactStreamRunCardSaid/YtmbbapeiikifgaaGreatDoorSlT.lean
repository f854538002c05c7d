/- New rows: literals, made slices; elements of rows that are written. -/
import Derived.Test.YtmbbapeiikifgaaGreatDoorSlI
import Derived.Laws.MakeOwn
import Derived.Laws.Rows
namespace Go.Proofs.YtmbbapeiikifgaaGreatDoor
open Go
def decI (k : IntKind) : List C → Option Int
  | [.int k' n] => if k = k' then some n else none
  | _ => none
def decB : List C → Option Bool
  | [.bool b] => some b
  | _ => none
def decS : List C → Option ByteArray
  | [.str s] => some s
  | _ => none
def decN {α : Type} : List C → Option (List α)
  | [.nilsl] => some []
  | _ => none
def dec0 : (t : Ty) → List C → Option t.T
  | .int k, cs => decI k cs
  | .bool, cs => decB cs
  | .str, cs => decS cs
  | .pair a b, cs => match dec0 a (cs.take a.sz), dec0 b (cs.drop a.sz) with
    | some x, some y => some (x, y)
    | _, _ => none
  | .own _, cs => decN cs
def decs (t : Ty) : Nat → List C → Option (List t.T)
  | 0, [] => some []
  | 0, _ :: _ => none
  | n + 1, cs => match dec0 t (cs.take t.sz), decs t n (cs.drop t.sz) with
    | some x, some xs => some (x :: xs)
    | _, _ => none
def noS : CS := fun _ _ => False
theorem cells_one {M : List Pl} {Z : CS} {w0 w : World} {c : C} {vs : List Value} {b o : Nat} (hc : CsRel M Z w0 [c] vs) (hcell : ∀ i v, vs[i]? = some v → w.cell? ⟨b, o + i, none⟩ = some v) :
    ∃ v, CRel M Z w0 c v ∧ w.cell? ⟨b, o, none⟩ = some v := by
  obtain ⟨v, r, rfl, h, _⟩ := hc
  exact ⟨v, h, by simpa using hcell 0 v rfl⟩
theorem dec0_own {M : List Pl} {Z : CS} {w0 w : World} : ∀ {t : Ty} {cs : List C} {x : t.T} {vs : List Value} {b o : Nat}, dec0 t cs = some x → CsRel M Z w0 cs vs →
    (∀ i v, vs[i]? = some v → w.cell? ⟨b, o + i, none⟩ = some v) → ElemOwn w t x b o noS := by
  intro t
  induction t with
  | int k =>
    intro cs x vs b o h hc hcell
    simp only [dec0] at h
    unfold decI at h
    split at h
    · split at h
      · rename_i hk
        subst hk
        cases h
        obtain ⟨v, h1, h2⟩ := cells_one hc hcell
        cases h1
        exact ⟨h2, fun _ _ h => h⟩
      · cases h
    · cases h
  | bool =>
    intro cs x vs b o h hc hcell
    simp only [dec0] at h
    unfold decB at h
    split at h
    · cases h
      obtain ⟨v, h1, h2⟩ := cells_one hc hcell
      cases h1
      exact ⟨h2, fun _ _ h => h⟩
    · cases h
  | str =>
    intro cs x vs b o h hc hcell
    simp only [dec0] at h
    unfold decS at h
    split at h
    · cases h
      obtain ⟨v, h1, h2⟩ := cells_one hc hcell
      cases h1
      exact ⟨h2, fun _ _ h => h⟩
    · cases h
  | pair a c iha ihc =>
    intro cs x vs b o h hc hcell
    simp only [dec0] at h
    split at h
    · rename_i y z h1 h2
      cases h
      refine ⟨noS, noS, iha h1 (hc.take _) fun i v hi => ?_, ihc h2 (hc.drop _) fun i v hi => ?_, fun _ _ h => h.elim, fun k j => by simp [noS]⟩
      · have hlt : i < a.sz := by have := (List.getElem?_eq_some_iff.1 hi).1; simp at this; omega
        rw [List.getElem?_take_of_lt hlt] at hi
        exact hcell i v hi
      · rw [List.getElem?_drop] at hi
        have := hcell _ v hi
        rwa [← Nat.add_assoc] at this
    · cases h
  | own t ih =>
    intro cs x vs b o h hc hcell
    simp only [dec0] at h
    unfold decN at h
    split at h
    · cases h
      obtain ⟨v, h1, h2⟩ := cells_one hc hcell
      cases h1
      exact ⟨none, 0, h2, .inl ⟨rfl, rfl, rfl, fun _ _ h => h⟩⟩
    · cases h
theorem decs_get {t : Ty} : ∀ {n : Nat} {cs : List C} {xs : List t.T}, decs t n cs = some xs → xs.length = n ∧ cs.length ≤ n * t.sz ∧ ∀ i x, xs[i]? = some x → dec0 t ((cs.drop (i * t.sz)).take t.sz) = some x
  | 0, cs, xs, h => by
    cases cs with
    | nil => simp only [decs, Option.some.injEq] at h; subst h; simp
    | cons c cs => simp [decs] at h
  | n + 1, cs, xs, h => by
    simp only [decs] at h
    split at h
    · rename_i x xs' h1 h2
      cases h
      obtain ⟨hl, hlc, hg⟩ := decs_get h2
      refine ⟨by simp [hl], ?_, fun i y hy => ?_⟩
      · simp at hlc; rw [Nat.add_mul]; omega
      · cases i with
        | zero => simp at hy; subst hy; simpa using h1
        | succ i =>
          have := hg i y (by simpa using hy)
          rw [List.drop_drop] at this
          rwa [show (i + 1) * t.sz = t.sz + i * t.sz from by rw [Nat.add_mul]; omega]
    · cases h
theorem newRow_own {M : List Pl} {Z : CS} {w0 : World} (w : World) {t : Ty} {n cap : Nat} {cs : List C} {vs : Array Value} {xs : List t.T} {e : TypeId} (hd : decs t n cs = some xs) (hc : CsRel M Z w0 cs (vs.toList.take cs.length)) (hn : n ≤ cap) (hs : vs.size = cap * t.sz) (hbig : cap ≤ 9223372036854775807) :
    RowOwn ({ w with heap := w.heap.push (.cells vs e) } : World) t xs ⟨some ⟨w.heap.size, 0, none⟩, xs.length, cap, fun k _ => k = w.heap.size⟩ := by
  obtain ⟨hl, hlc, hg⟩ := decs_get hd
  refine ⟨rfl, .inr ⟨w.heap.size, vs, e, rfl, push_get w _, hs, ⟨(show xs.length ≤ cap by omega), hbig⟩, fun _ => noS, fun i x hx => ?_, fun _ _ _ _ _ _ _ h => h.elim, fun _ _ _ h => h, fun k j => by simp [noS]⟩⟩
  refine dec0_own (hg i x hx) ((hc.drop (i * t.sz)).take t.sz) fun j v hj => ?_
  have hlt : j < t.sz := by have := (List.getElem?_eq_some_iff.1 hj).1; simp at this; omega
  rw [List.getElem?_take_of_lt hlt, List.getElem?_drop] at hj
  refine cell_iff.2 ⟨vs, e, (0, 0), push_get w _, ?_⟩
  have h2 : i * t.sz + j < cs.length := by have := (List.getElem?_eq_some_iff.1 hj).1; simp at this; omega
  rw [List.getElem?_take_of_lt h2] at hj
  simpa using hj
def zerosC (z : List C) (n : Nat) : List C := (List.range n).map fun i => (z[i % z.length]?).getD .nilp
def evBuildSlice (P : Program) (st : St) (wit : Option Wit) (ty : TypeId) (len : Nat) (parts : Array (Nat × Operand)) : Option MRes :=
  match isSlice P ty, wit, partsOf st.T parts.toList with
  | some e, some (.el t _), some ps => match P.info? e, zeroC P e with
    | some inf, some z => if inf.size = t.sz ∧ z.length = t.sz ∧ len * t.sz ≤ 16777216 then
        match fillC (fun i => some (i * t.sz, t.sz)) (zerosC z (len * t.sz)) ps with
        | some cs => if cs.length = len * t.sz then (decs t len cs).map fun xs => ⟨some (.p (.c (.sl st.H.length))), ⟨st.T, st.H ++ [.row t xs]⟩, none, .no⟩ else none
        | none => none
      else none
    | _, _ => none
  | _, _, _ => none
def evMakeSlice (P : Program) (st : St) (wit : Option Wit) (ty : TypeId) (l c : Operand) : Option MRes :=
  match isSlice P ty, wit, opd st.T l, opd st.T c with
  | some e, some (.el t _), some (.p (.c (.int _ n))), some (.p (.c (.int _ m))) => match P.info? e, zeroC P e with
    | some inf, some z => if inf.size = t.sz ∧ z.length = t.sz ∧ inf.bytes ≤ 256 then
        (dec0 t z).map fun x => ⟨some (.p (.c (.sl st.H.length))), ⟨st.T, st.H ++ [.row t (List.replicate n.toNat x)]⟩, some (0 ≤ n ∧ n ≤ m ∧ m ≤ 1099511627776), .no⟩
      else none
    | _, _ => none
  | _, _, _, _ => none
section
variable {E : Env} {st : St} {M : List Pl} {Z : CS} {a : Act} {w w' : World} {o : Oper} {r : MRes}
theorem CsRel.of_get {cs : List C} {vs : List Value} (hl : vs.length = cs.length) (h : ∀ (i : Nat) (c : C) (v : Value), cs[i]? = some c → vs[i]? = some v → CRel M Z w c v) : CsRel M Z w cs vs := by
  induction cs generalizing vs with
  | nil => exact List.eq_nil_of_length_eq_zero (by simpa using hl)
  | cons c cs ih =>
    cases vs with
    | nil => simp at hl
    | cons v vs => exact ⟨v, vs, rfl, h 0 c v rfl rfl, ih (by simpa using hl) fun i c' v' hc hv => h (i + 1) c' v' (by simpa using hc) (by simpa using hv)⟩
theorem sl_last {p : Pl} {n : Nat} {v : Value} (hn : M.length = n) (hv : v = .slice p.av p.len p.cap) : ARel (M ++ [p]) Z w (.p (.c (.sl n))) v := ⟨p, by subst hn; simp, hv⟩
theorem zeros_rel {z : List C} {zv : Array Value} (hz : CsRel M Z w z zv.toList) (hpos : 0 < z.length) (n : Nat) : CsRel M Z w (zerosC z n) ((Array.range n).map (zv[· % zv.size]!)).toList := by
  have hl := hz.len
  simp only [Array.length_toList] at hl
  refine CsRel.of_get (by simp [zerosC]) fun i c v hc hv => ?_
  simp only [zerosC, List.getElem?_map, Option.map_eq_some_iff] at hc
  obtain ⟨i1, hi1, rfl⟩ := hc
  have hi : i < n := by have := (List.getElem?_eq_some_iff.1 hi1).1; simpa using this
  rw [List.getElem?_range hi] at hi1
  cases hi1
  have hm : i % z.length < z.length := Nat.mod_lt _ hpos
  have hv' : v = zv[i % zv.size]! := by
    simp only [Array.toList_map, Array.toList_range, List.getElem?_map, List.getElem?_range hi, Option.map_some, Option.some.injEq] at hv
    exact hv.symm
  rw [List.getElem?_eq_getElem hm, Option.getD_some]
  obtain ⟨u, hu, hur⟩ := hz.get (List.getElem?_eq_getElem hm)
  rw [hv', hl]
  have : zv[i % z.length]! = u := by
    have h2 : i % z.length < zv.size := by omega
    rw [Array.getElem?_toList] at hu
    rw [getElem!_pos zv _ h2]
    rw [Array.getElem?_eq_getElem h2] at hu
    exact Option.some.inj hu
  rw [this]; exact hur
theorem zeroC_spec {P : Program} {t : TypeId} {z : List C} (h : zeroC P t = some z) : ∃ i zv, P.info? t = some i ∧ i.zero = some zv ∧ ofVs zv.cells.toList = some z := by
  unfold zeroC at h
  split at h
  · rename_i i hi
    split at h
    · rename_i zv hz; exact ⟨i, zv, hi, hz, h⟩
    · cases h
  · cases h
theorem Rel.newRow (h : Rel E st M Z a w) {t : Ty} {xs : List t.T} {vs : Array Value} {e : TypeId} {p : Pl} (hp : RowOwn ({ w with heap := w.heap.push (.cells vs e) } : World) t xs p) (hS : ∀ k j, p.S k j → k = w.heap.size) :
    Rel E ⟨st.T, st.H ++ [.row t xs]⟩ (M ++ [p]) Z a { w with heap := w.heap.push (.cells vs e) } :=
  h.new (Keep.push w _) (fun k j hs => by have := hS k j hs; simp; omega) hp
theorem evBuildSlice_ok (hr : Rel E st M Z a w) {wit : Option Wit} {ty : TypeId} {len : Nat} {parts : Array (Nat × Operand)} (ho : o.op = .buildSlice ty len parts) (h : evBuildSlice E.P st wit ty len parts = some r) : MOk E M Z a w o r := by
  unfold evBuildSlice at h
  split at h
  · rename_i e t y ps he hps
    split at h
    · rename_i inf z hinf hz
      split at h
      · rename_i hcond
        obtain ⟨hsz, hzl, hlen⟩ := hcond
        split at h
        · rename_i cs hfill
          split at h
          · rename_i hcl
            simp only [Option.map_eq_some_iff] at h
            obtain ⟨xs, hxs, rfl⟩ := h
            obtain ⟨i, zv, hi, hzv, hof⟩ := zeroC_spec hz
            rw [hinf] at hi; cases hi
            have hzr := zeros_rel (ofVs_rel (M := M) (Z := Z) (w := w) hof) (by rw [hzl]; exact t.sz_pos) (len * t.sz)
            obtain ⟨vs', hf, hrel⟩ := fill_rel hfill hzr (partsOf_rel hr hps)
            have hvl := hrel.len
            simp only [Array.length_toList] at hvl
            have hrow := newRow_own (M := M) (Z := Z) (w0 := w) w (e := e) (vs := vs') (cap := len) hxs (by rw [List.take_of_length_le (by simp; omega)]; exact hrel) (Nat.le_refl _) (by omega) (by have := t.sz_pos; have := Nat.le_mul_of_pos_right len this; omega)
            have hxl : xs.length = len := (decs_get hxs).1
            refine ⟨_, _, hr.newRow hrow fun _ _ hs => hs, MSub.append M _, new_fresh fun _ _ hs => hs, Keep.push w _, .slice (some ⟨w.heap.size, 0, none⟩) len len, ?_, sl_last hr.ml (by rw [hxl])⟩
            have hnb : ¬ (16777216 < len * t.sz) := by omega
            by_cases h0 : len * t.sz = 0
            · have hl0 : len = 0 := by
                rcases Nat.mul_eq_zero.1 h0 with h1 | h1
                · exact h1
                · have := t.sz_pos; omega
              subst hl0
              have hr0 : Array.range 0 = #[] := rfl
              have hf0 : Instr.fill (fun i => some (i * t.sz, t.sz)) #[] (parts.toList.map fun p => (p.1, a.eval p.2)) = some vs' := by simpa [hr0] using hf
              simp [execOp, ho, Instr.buildSlice, underlying, program, Sem.run, isSlice_spec he, run_sizeOf hinf, hsz, hr0, hf0, newRow, newObj]
            · have hf' : Instr.fill (fun i => some (i * t.sz, t.sz)) ((Array.range (len * t.sz)).map (zv.cells[· % zv.cells.size]!)) (parts.toList.map fun p => (p.1, a.eval p.2)) = some vs' := hf
              simp [execOp, ho, Instr.buildSlice, underlying, program, Sem.run, isSlice_spec he, run_sizeOf hinf, hsz, hnb, h0, zeroValue, typeInfo, hinf, hzv, hf', newRow, newObj]
          · cases h
        · cases h
      · cases h
    · cases h
  · cases h
theorem evMakeSlice_ok (hr : Rel E st M Z a w) {wit : Option Wit} {ty : TypeId} {l c : Operand} (ho : o.op = .makeSlice ty l c) (h : evMakeSlice E.P st wit ty l c = some r) (hc : met r.c) : MOk E M Z a w o r := by
  unfold evMakeSlice at h
  split at h
  · rename_i e t y kl n kc m he hl hm
    split at h
    · rename_i inf z hinf hz
      split at h
      · rename_i hcond
        obtain ⟨hsz, hzl, hb⟩ := hcond
        simp only [Option.map_eq_some_iff] at h
        obtain ⟨x, hx, rfl⟩ := h
        obtain ⟨h0, h1, h2⟩ : 0 ≤ n ∧ n ≤ m ∧ m ≤ 1099511627776 := hc
        obtain ⟨i, zv, hi, hzv, hof⟩ := zeroC_spec hz
        rw [hinf] at hi; cases hi
        have hlv : a.eval l = .int kl n := opd_rel hr hl
        have hmv : a.eval c = .int kc m := opd_rel hr hm
        have hz0 := ofVs_rel (M := M) (Z := Z) (w := w) hof
        have hzr := zeros_rel hz0 (by rw [hzl]; exact t.sz_pos) (m.toNat * t.sz)
        have hrow : RowOwn ({ w with heap := w.heap.push (.cells (madeCells zv.cells (m.toNat * t.sz)) e) } : World) t (List.replicate n.toNat x) ⟨some ⟨w.heap.size, 0, none⟩, (List.replicate n.toNat x).length, m.toNat, fun k _ => k = w.heap.size⟩ := by
          refine ⟨rfl, .inr ⟨w.heap.size, _, e, rfl, push_get w _, size_madeCells _ _, by simp; omega, fun _ => noS, fun i y hy => ?_, fun _ _ _ _ _ _ _ h => h.elim, fun _ _ _ h => h, fun k j => by simp [noS]⟩⟩
          have hin : i < n.toNat := by have := (List.getElem?_eq_some_iff.1 hy).1; simpa using this
          have hyx : y = x := by rw [List.getElem?_replicate, if_pos hin] at hy; cases hy; rfl
          subst hyx
          refine dec0_own hx hz0 fun j v hj => ?_
          have hjz : j < t.sz := by have := (List.getElem?_eq_some_iff.1 hj).1; have := hz0.len; omega
          refine cell_iff.2 ⟨_, e, (0, 0), push_get w _, ?_⟩
          have hzs : zv.cells.size = t.sz := by have := hz0.len; simp only [Array.length_toList] at this; omega
          have hlt : i * t.sz + j < m.toNat * t.sz := by
            have : (i + 1) * t.sz ≤ m.toNat * t.sz := Nat.mul_le_mul_right _ (by omega)
            rw [Nat.add_mul] at this; omega
          have hmod : (i * t.sz + j) % t.sz = j := by rw [Nat.add_comm, Nat.add_mul_mod_self_right]; exact Nat.mod_eq_of_lt hjz
          rw [Array.getElem?_toList] at hj
          unfold madeCells
          simp only [Array.getElem?_map, Array.getElem?_range, if_pos hlt, Option.map_some, hzs, hmod]
          rw [getElem!_pos zv.cells j (by omega)]
          rw [← hj, Array.getElem?_eq_getElem (by omega)]
        have hlen : (List.replicate n.toNat x).length = n.toNat := by simp
        rw [hlen] at hrow
        refine ⟨_, _, hr.newRow hrow fun _ _ hs => hs, MSub.append M _, new_fresh fun _ _ hs => hs, Keep.push w _, .slice (some ⟨w.heap.size, 0, none⟩) n.toNat m.toNat, ?_, sl_last hr.ml rfl⟩
        have hrun := run_make (P := E.P) w ty e inf zv (isSlice_spec he) hinf hzv kl kc n m h0 h1 (by
          have : (inf.bytes : Int) * m ≤ 256 * m := Int.mul_le_mul_of_nonneg_right (by omega) (by omega)
          omega) (by omega)
        rw [hsz] at hrun
        simp only [execOp, ho, hlv, hmv]
        rw [stepB _ _ hrun]
        rfl
      · cases h
    · cases h
  · cases h
end
end Go.Proofs.YtmbbapeiikifgaaGreatDoor
