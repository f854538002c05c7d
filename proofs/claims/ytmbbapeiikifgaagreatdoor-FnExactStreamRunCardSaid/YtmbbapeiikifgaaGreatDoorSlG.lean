/- The value of an operation that writes nothing. -/
import Derived.Test.YtmbbapeiikifgaaGreatDoorSlGb
import Derived.Laws.BytesString
namespace Go.Proofs.YtmbbapeiikifgaaGreatDoor
open Go
def bstr (xs : List Int) : ByteArray := ⟨(xs.map fun n => UInt8.ofNat n.toNat).toArray⟩
theorem bstr_fold (xs : List Int) : xs.foldl (fun r n => r.push (UInt8.ofNat n.toNat)) ByteArray.empty = bstr xs := by
  have key : ∀ (xs : List Int) (s : ByteArray), xs.foldl (fun r n => r.push (UInt8.ofNat n.toNat)) s = ⟨s.data ++ (xs.map fun n => UInt8.ofNat n.toNat).toArray⟩ := by
    intro xs
    induction xs with
    | nil => intro s; simp
    | cons x xs ih =>
      intro s
      rw [List.foldl_cons, ih]
      apply ByteArray.ext
      simp [ByteArray.push]
  rw [key]
  apply ByteArray.ext
  simp [bstr]
def evConv (P : Program) (st : St) (s d : TypeId) (x : Operand) : Option VRes :=
  match isSlice P s, P.underlying d, opd st.T x with
  | some e, some .string, some (.p (.c (.vw q (.int .u8) xs))) => match P.underlying e with
    | some (.int .u8) => some ⟨.p (.c (.str (bstr xs))), none, .dep q⟩
    | _ => none
  | some e, some .string, some (.p (.c (.sl q))) => match P.underlying e, st.H[q]? with
    | some (.int .u8), some (.row (.int .u8) xs) => some ⟨.p (.c (.str (bstr xs))), none, .dep (some q)⟩
    | _, _ => none
  | _, _, _ => none
def evV (P : Program) (st : St) (wit : Option Wit) (o : Oper) : Option VRes :=
  match o.op with
  | .move x | .assign x => (opd st.T x).map fun y => ⟨y, none, .no⟩
  | .pick c a b => match opd st.T c with
    | some (.p (.c (.bool q))) => match opd st.T a, opd st.T b with
      | some (.p (.c (.bool x))), some (.p (.c (.bool y))) => some ⟨.p (.c (.bool (bif q then x else y))), none, .no⟩
      | some x, some y => match q with | true => some ⟨x, none, .no⟩ | false => some ⟨y, none, .no⟩
      | some x, none => match q with | true => some ⟨x, none, .no⟩ | false => none
      | none, some y => match q with | true => none | false => some ⟨y, none, .no⟩
      | none, none => none
    | _ => none
  | .nilCheck x => match opd st.T x with
    | some (.p (.c (.ptr o j))) => some ⟨.p (.c (.ptr o j)), none, .no⟩
    | some (.p (.c (.ep o i t y j))) => some ⟨.p (.c (.ep o i t y j)), none, .no⟩
    | some (.p (.c (.vp d t y j))) => some ⟨.p (.c (.vp d t y j)), none, .no⟩
    | some (.p (.c (.fn f cs))) => some ⟨.p (.c (.fn f cs)), none, .no⟩
    | _ => none
  | .fieldAddr s x f => match fieldOff P s f, opd st.T x with
    | some n, some (.p (.c (.ptr o j))) => some ⟨.p (.c (.ptr o (j + n))), none, .no⟩
    | some n, some (.p (.c (.ep o i t y j))) => some ⟨.p (.c (.ep o i t y (j + n))), none, .no⟩
    | some n, some (.p (.c (.vp d t y j))) => some ⟨.p (.c (.vp d t y (j + n))), none, .no⟩
    | _, _ => none
  | .load t x => evLoad P st t x
  | .extract x i => match opd st.T x with
    | some (.tup vs) => (vs[i]?).map fun v => ⟨.p v, none, .no⟩
    | _ => none
  | .makeFunc (.func f) first caps => if first.size = 0 then (ptrsOf st.T caps.toList).map fun cs => ⟨.p (.c (.fn f cs)), none, .no⟩ else none
  | .indexAddr t x i => evIndexAddr P st wit t x i
  | .convert s d x => match evConv P st s d x with
    | some r => some r
    | none => evZ P st o
  | _ => evZ P st o
section
variable {E : Env} {st : St} {M : List Pl} {Z : CS} {a : Act} {w : World} {o : Oper} {r : VRes}
theorem conv_ok {s d e : TypeId} {x : Operand} (ho : o.op = .convert s d x) (hs : isSlice E.P s = some e) (he : E.P.underlying e = some (.int .u8)) (hd : E.P.underlying d = some .string) {q : Option Nat} {xs : List Int}
    (hx : SlRd (zone M Z q) w (.int .u8) xs (a.eval x)) : VOk E M Z a w o ⟨.p (.c (.str (bstr xs))), none, .dep q⟩ := by
  obtain ⟨av, cap, hv, hl, hr⟩ := hx
  refine ⟨_, rfl, fun w' hw => ?_⟩
  have hrun : (Conv.bytesToString (.slice av xs.length cap)).run E.P w' = .ok (.string (bstr xs)) w' := by
    rcases hr with rfl | ⟨b, f, rfl, hr⟩
    · cases av with
      | none => simp [Conv.bytesToString, bstr]; rfl
      | some a' =>
        have := run_bytesToString (P := E.P) w' a' 0 cap [] (by simp [loadCells, loadCellsFrom])
        rw [bstr_fold] at this
        exact this
    · have := run_bytesToString (P := E.P) w' ⟨b, f, none⟩ xs.length cap xs (by
        have h0 := run_loadCellsFrom (P := E.P) (a := ⟨b, f, none⟩) (w := w') (xs.map (Value.int .u8)) 0 #[] fun j v hj => by
          simp only [List.getElem?_map, Option.map_eq_some_iff] at hj
          obtain ⟨y, hy, rfl⟩ := hj
          obtain ⟨h1, h2⟩ := hr j y hy
          rw [addr_add, Nat.zero_add]
          simp only [Ty.sz, Nat.mul_one] at h1 h2
          exact hw b (f + j) _ h2 h1
        simpa [loadCells] using h0)
      rw [bstr_fold] at this
      exact this
  simp only [execOp, ho, hv, Sem.run_bind, run_convert_bytes_string w' s d e av _ _ (isSlice_spec hs) he hd, hrun, Result.andThen_ok]
  rfl
theorem evConv_ok (hr : Rel E st M Z a w) {s d : TypeId} {x : Operand} (ho : o.op = .convert s d x) (h : evConv E.P st s d x = some r) : VOk E M Z a w o r := by
  unfold evConv at h
  split at h
  · rename_i e q xs hs hd hx
    split at h
    · rename_i he
      cases h
      exact conv_ok ho hs he hd (opd_rel hr hx)
    · cases h
  · rename_i e q hs hd hx
    split at h
    · rename_i xs he hH
      cases h
      obtain ⟨p, hp, hv⟩ := opd_rel hr hx
      have hrow : RowOwn w (.int .u8) xs p := hr.ob q _ p hH hp
      have := hrow.rd
      rw [← hv] at this
      exact conv_ok ho hs he hd (this.mono fun k j h => ⟨p, hp, h⟩)
    · cases h
  · cases h
theorem evV_ok (hr : Rel E st M Z a w) {wit : Option Wit} (h : evV E.P st wit o = some r) (hc : met r.c) : VOk E M Z a w o r := by
  unfold evV at h
  split at h
  · rename_i x ho
    simp only [Option.map_eq_some_iff] at h
    obtain ⟨y, hy, rfl⟩ := h
    exact .plain (opd_rel hr hy) fun w' => by simp [execOp, ho]
  · rename_i x ho
    simp only [Option.map_eq_some_iff] at h
    obtain ⟨y, hy, rfl⟩ := h
    exact .plain (opd_rel hr hy) fun w' => by simp [execOp, ho]
  · rename_i c x y ho
    split at h
    · rename_i q hq
      have hqv : a.eval c = .bool q := opd_rel hr hq
      split at h
      · rename_i bx by' hx hy
        cases h
        have hxv : a.eval x = .bool bx := opd_rel hr hx
        have hyv : a.eval y = .bool by' := opd_rel hr hy
        exact .plain rfl fun w' => by cases q <;> simp [execOp, ho, hqv, hxv, hyv, asBool]
      · rename_i vx vy _ hx hy
        cases q <;> cases h
        · exact .plain (opd_rel hr hy) fun w' => by simp [execOp, ho, hqv, asBool]
        · exact .plain (opd_rel hr hx) fun w' => by simp [execOp, ho, hqv, asBool]
      · rename_i vx hx _
        cases q <;> cases h
        exact .plain (opd_rel hr hx) fun w' => by simp [execOp, ho, hqv, asBool]
      · rename_i vy _ hy
        cases q <;> cases h
        exact .plain (opd_rel hr hy) fun w' => by simp [execOp, ho, hqv, asBool]
      · cases h
    · cases h
  · rename_i x ho
    split at h
    · rename_i o' j hx
      cases h
      have hxr := opd_rel hr hx
      obtain ⟨p, b, f, hp, ha, hv⟩ := id hxr
      exact .plain hxr fun w' => by simp [execOp, ho, hv]
    · rename_i o' i t y j hx
      cases h
      have hxr := opd_rel hr hx
      obtain ⟨p, b, hp, ha, hi, he, hv⟩ := id hxr
      exact .plain hxr fun w' => by simp [execOp, ho, hv]
    · rename_i d t y j hx
      cases h
      have hxr := opd_rel hr hx
      obtain ⟨b, f, he, hv⟩ := id hxr
      exact .plain hxr fun w' => by simp [execOp, ho, hv]
    · rename_i f cs hx
      cases h
      have hxr := opd_rel hr hx
      obtain ⟨vs, hv, _⟩ := id hxr
      exact .plain hxr fun w' => by simp [execOp, ho, hv]
    · cases h
  · rename_i s x f ho
    split at h
    · rename_i n o' j hf hx
      cases h
      obtain ⟨p, b, g, hp, ha, hv⟩ := opd_rel hr hx
      exact .plain ⟨p, b, g, hp, ha, rfl⟩ fun w' => by simp [execOp, ho, hv, fieldOff_run hf, Nat.add_assoc]
    · rename_i n o' i t y j hf hx
      cases h
      obtain ⟨p, b, hp, ha, hi, he, hv⟩ := opd_rel hr hx
      exact .plain ⟨p, b, hp, ha, hi, he, rfl⟩ fun w' => by simp [execOp, ho, hv, fieldOff_run hf, Nat.add_assoc]
    · rename_i n d t y j hf hx
      cases h
      obtain ⟨b, g, he, hv⟩ := opd_rel hr hx
      exact .plain ⟨b, g, he, rfl⟩ fun w' => by simp [execOp, ho, hv, fieldOff_run hf, Nat.add_assoc]
    · cases h
  · rename_i t x ho
    exact evLoad_ok hr ho h
  · rename_i x i ho
    split at h
    · rename_i vs hx
      simp only [Option.map_eq_some_iff] at h
      obtain ⟨v, hv, rfl⟩ := h
      obtain ⟨us, hu, hrs⟩ := opd_rel hr hx
      obtain ⟨u, hui, hur⟩ := hrs.get hv
      exact .plain hur fun w' => by simp [execOp, ho, hu, Instr.extract, hui]
    · cases h
  · rename_i f first caps ho
    split at h
    · rename_i hz
      simp only [Option.map_eq_some_iff] at h
      obtain ⟨cs, hcs, rfl⟩ := h
      have hfirst : first = #[] := Array.eq_empty_of_size_eq_zero hz
      exact .plain ⟨caps.toList.map a.eval, rfl, ptrsOf_rel hr hcs⟩ fun w' => by simp [execOp, ho, Instr.makeFunc, hfirst]; apply Array.ext'; simp
    · cases h
  · rename_i t x i ho
    exact evIndexAddr_ok hr ho h hc
  · rename_i s d x ho
    split at h
    · rename_i r' hs; cases h; exact evConv_ok hr ho hs
    · exact evZ_ok hr h hc
  · exact evZ_ok hr h hc
end
end Go.Proofs.YtmbbapeiikifgaaGreatDoor
