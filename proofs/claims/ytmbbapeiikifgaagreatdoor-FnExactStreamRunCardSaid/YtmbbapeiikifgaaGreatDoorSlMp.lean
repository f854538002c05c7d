/- Maps that a call makes for itself: from plain data to ints; entries in the order in which they came. -/
import Derived.Test.YtmbbapeiikifgaaGreatDoorSlU
import Derived.MapKept
import Derived.DeepKeys3
namespace Go.Proofs.YtmbbapeiikifgaaGreatDoor
open Go
structure KeyT (P : Program) (mt : TypeId) (t : Ty) : Prop where
  ty : ∃ kt el, P.underlying mt = some (.map kt el) ∧ (∀ w, (zeroValue el).run P w = .ok (.int .i64 0) w) ∧
    (∀ x em w, (Instr.checkKey em 10000 kt (keyV t x)).run P w = .ok () w) ∧
    (∀ x (l : List MapEntry) w, (∀ e, e ∈ l → ∃ y : t.T, e.key = keyV t y) → ∃ o, (Instr.findKey kt (keyV t x) l).run P w = .ok o w ∧
      ((o = none ∧ ∀ e, e ∈ l → e.key ≠ keyV t x) ∨ ∃ (j : Nat) (e : MapEntry), o = some (j, e.val) ∧ l[j]? = some e ∧ e.key = keyV t x ∧ ∀ i, i < j → ∀ e', l[i]? = some e' → e'.key ≠ keyV t x))
  inj : ∀ x y, keyV t x = keyV t y → x = y
  sb : ∀ x, Instr.sameBits 10000 (keyV t x) (keyV t x) = true
section
variable {t : Ty}
local instance : DecidableEq t.T := t.deq
theorem mix_none : ∀ {es : List (t.T × Int)} {x : t.T}, (∀ e, e ∈ es → e.1 ≠ x) → mix es x = es.length ∧ mget es x = 0 ∧ ment es x = es ++ [(x, 0)]
  | [], x, _ => ⟨rfl, rfl, rfl⟩
  | e :: es, x, h => by
    have hne : ¬ x = e.1 := fun q => h e (List.mem_cons_self) q.symm
    obtain ⟨h1, h2, h3⟩ := mix_none (es := es) (x := x) fun e' he => h e' (List.mem_cons_of_mem _ he)
    simp [mix, mget, ment, hne, h1, h2, h3]
theorem mix_some : ∀ {es : List (t.T × Int)} {x : t.T} {j : Nat} {y : t.T × Int}, es[j]? = some y → y.1 = x → (∀ i, i < j → ∀ e, es[i]? = some e → e.1 ≠ x) → mix es x = j ∧ mget es x = y.2 ∧ ment es x = es
  | [], x, j, y, h, _, _ => by simp at h
  | e :: es, x, 0, y, h, hy, _ => by
    simp only [List.getElem?_cons_zero, Option.some.injEq] at h
    subst h; subst hy
    simp [mix, mget, ment]
  | e :: es, x, j + 1, y, h, hy, hn => by
    have hne : ¬ x = e.1 := fun q => hn 0 (by omega) e rfl q.symm
    obtain ⟨h1, h2, h3⟩ := mix_some (es := es) (x := x) (j := j) (by simpa using h) hy fun i hi e' he => hn (i + 1) (by omega) e' (by simpa using he)
    simp [mix, mget, ment, hne, h1, h2, h3]
theorem mget_ment : ∀ {es : List (t.T × Int)} {x y : t.T}, mget (ment es x) y = mget es y
  | [], x, y => by simp [ment, mget]
  | e :: es, x, y => by
    unfold ment
    split
    · rfl
    · simp [mget, mget_ment (es := es)]
theorem mput_ment : ∀ {es : List (t.T × Int)} {x : t.T} {v : Int}, (ment es x).modify (mix es x) (fun e => (e.1, v)) = mput es x v
  | [], x, v => by simp [ment, mix, mput, List.modify]
  | e :: es, x, v => by
    by_cases h : x = e.1
    · simp [ment, mix, mput, h]
    · simp [ment, mix, mput, h, mput_ment (es := es)]
theorem mix_lt : ∀ {es : List (t.T × Int)} {x : t.T}, mix es x < (ment es x).length
  | [], x => by simp [mix, ment]
  | e :: es, x => by
    by_cases h : x = e.1
    · simp [mix, ment, h]
    · simp [mix, ment, h, mix_lt (es := es)]
theorem find_run {P : Program} {kt : TypeId} {w : World} {es : List (t.T × Int)} {mes : Array MapEntry} {x : t.T} (hsz : mes.size = es.length)
    (hg : ∀ (i : Nat) x, es[i]? = some x → ∃ e, mes[i]? = some e ∧ e.key = keyV t x.1 ∧ e.val = .int .i64 x.2 ∧ e.born = i) (hinj : ∀ x y, keyV t x = keyV t y → x = y)
    (hf : ∀ x (l : List MapEntry) w, (∀ e, e ∈ l → ∃ y : t.T, e.key = keyV t y) → ∃ o, (Instr.findKey kt (keyV t x) l).run P w = .ok o w ∧
      ((o = none ∧ ∀ e, e ∈ l → e.key ≠ keyV t x) ∨ ∃ (j : Nat) (e : MapEntry), o = some (j, e.val) ∧ l[j]? = some e ∧ e.key = keyV t x ∧ ∀ i, i < j → ∀ e', l[i]? = some e' → e'.key ≠ keyV t x)) :
    ((Instr.findKey kt (keyV t x) mes.toList).run P w = .ok none w ∧ mix es x = es.length ∧ mget es x = 0 ∧ ment es x = es ++ [(x, 0)]) ∨
    ∃ (j : Nat) (e : MapEntry), (Instr.findKey kt (keyV t x) mes.toList).run P w = .ok (some (j, .int .i64 (mget es x))) w ∧ mix es x = j ∧ ment es x = es ∧ mes[j]? = some e ∧ e.key = keyV t x ∧ e.born = j := by
  have hback : ∀ (i : Nat) e, mes[i]? = some e → ∃ y, es[i]? = some y ∧ e.key = keyV t y.1 ∧ e.val = .int .i64 y.2 ∧ e.born = i := fun i e he => by
    have hi : i < es.length := hsz ▸ (Array.getElem?_eq_some_iff.1 he).1
    obtain ⟨e', he', h1, h2, h3⟩ := hg i es[i] (by simp [hi])
    rw [he] at he'; cases he'
    exact ⟨es[i], by simp [hi], h1, h2, h3⟩
  obtain ⟨o, hrun, ho⟩ := hf x mes.toList w fun e he => by
    obtain ⟨i, hi⟩ := List.getElem?_of_mem he
    obtain ⟨y, _, h1, _⟩ := hback i e (by simpa using hi)
    exact ⟨y.1, h1⟩
  rcases ho with ⟨rfl, hn⟩ | ⟨j, e, rfl, hj, hk, hn⟩
  · refine .inl ⟨hrun, mix_none fun y hy h => ?_⟩
    obtain ⟨i, hi⟩ := List.getElem?_of_mem hy
    obtain ⟨e, he, h1, _⟩ := hg i y hi
    exact hn e (List.mem_of_getElem? (i := i) (by simpa using he)) (by rw [h1, h])
  · have hj' : mes[j]? = some e := by simpa using hj
    obtain ⟨y, hy, h1, h2, h3⟩ := hback j e hj'
    obtain ⟨q1, q2, q3⟩ := mix_some hy (hinj _ _ (h1.symm.trans hk)) fun i hi y' hy' h => by
      obtain ⟨e', he', h1', _⟩ := hg i y' hy'
      exact hn i hi e' (by simpa using he') (by rw [h1', h])
    exact .inr ⟨j, e, by rw [hrun, h2, q2], q1, q3, hj', hk, h3⟩
end
def keyOf : PV → (t : Ty) → Option t.T
  | .c (.int k n), .int k' => if k = k' then some n else none
  | .c (.bool b), .bool => some b
  | .c (.str s), .str => some s
  | .agg cs, .pair a b => if plain (.pair a b) then dec0 (.pair a b) cs else none
  | _, _ => none
def evMakeMap (st : St) (wit : Option Wit) (_ : TypeId) : Option MRes :=
  match wit with
  | some (.el t _) => some ⟨some (.p (.c (.mp st.H.length))), ⟨st.T, st.H ++ [.mp t [] none]⟩, none, .no⟩
  | none => none
def evLookup (P : Program) (st : St) (mt : TypeId) (m k : Operand) : Option MRes :=
  match opd st.T m, opd st.T k with
  | some (.p (.c (.mp o))), some (.p pv) => match st.H[o]? with
    | some (.mp t es _) => (keyOf pv t).map fun x => ⟨some (.p (.c (.int .i64 (@mget _ t.deq es x)))), st, some (KeyT P mt t), .dep (some o)⟩
    | _ => none
  | _, _ => none
def evMapEntry (P : Program) (st : St) (mt : TypeId) (m k : Operand) : Option MRes :=
  match opd st.T m, opd st.T k with
  | some (.p (.c (.mp o))), some (.p pv) => match st.H[o]? with
    | some (.mp t es none) => if st.free o then (keyOf pv t).map fun x =>
        ⟨some (.tup [.c (.int .i64 (@mget _ t.deq es x)), .c (.int .i64 (@mix _ t.deq es x : Nat))]), ⟨st.T, st.H.set o (.mp t es (some x))⟩, some (KeyT P mt t), .dep (some o)⟩ else none
    | _ => none
  | _, _ => none
def evEntryStore (st : St) (m s x : Operand) : Option MRes :=
  match opd st.T m, opd st.T s, opd st.T x with
  | some (.p (.c (.mp o))), some (.p (.c (.int _ i))), some (.p (.c (.int .i64 v))) => match st.H[o]? with
    | some (.mp t es (some y)) => if st.free o then some ⟨none, ⟨st.T, st.H.set o (.mp t (@mput _ t.deq es y v) none)⟩, some (i = (@mix _ t.deq es y : Nat)), .dep (some o)⟩ else none
    | _ => none
  | _, _, _ => none
theorem gobj {P : Program} {w : World} {r : Nat} {es : Array MapEntry} {n : Nat} (hb : w.heap[r]? = some (.map es n)) : (getObj r).run P w = .ok (.map es n) w := by
  simp [getObj, Sem.run, hb]
theorem sobj {P : Program} {w : World} {r : Nat} {es : Array MapEntry} {n : Nat} {o : Obj} (hb : w.heap[r]? = some (.map es n)) : (setObj r o).run P w = .ok () { w with heap := w.heap.setIfInBounds r o } := by
  simp [setObj, Sem.run, hb]
theorem noNew (M : List Pl) {A : Nat → Nat → Prop} : ∀ (i : Nat) (p' : Pl) k j, M[i]? = some p' → M.length ≤ i → p'.S k j → A k j := fun i p' k j h1 h2 => by
  rw [List.getElem?_eq_none h2] at h1; cases h1
section
variable {E : Env} {st : St} {M : List Pl} {Z : CS} {a : Act} {w w' : World} {o : Oper} {r : MRes}
theorem encW_dec : ∀ {t : Ty} {cs : List C} {x : t.T} {vs : List Value}, plain t = true → dec0 t cs = some x → CsRel M Z w cs vs → vs = encW t x
  | .int k, cs, x, vs, _, h, hc => by
    simp only [dec0] at h
    unfold decI at h
    split at h
    · rename_i k' n
      split at h
      · rename_i e; cases h; subst e
        obtain ⟨v, r, rfl, hv, hr⟩ := hc
        simp only [CRel] at hv; simp only [CsRel] at hr; subst hv; subst hr; rfl
      · cases h
    · cases h
  | .bool, cs, x, vs, _, h, hc => by
    simp only [dec0] at h
    unfold decB at h
    split at h
    · cases h
      obtain ⟨v, r, rfl, hv, hr⟩ := hc
      simp only [CRel] at hv; simp only [CsRel] at hr; subst hv; subst hr; rfl
    · cases h
  | .str, cs, x, vs, _, h, hc => by
    simp only [dec0] at h
    unfold decS at h
    split at h
    · cases h
      obtain ⟨v, r, rfl, hv, hr⟩ := hc
      simp only [CRel] at hv; simp only [CsRel] at hr; subst hv; subst hr; rfl
    · cases h
  | .pair a b, cs, x, vs, hp, h, hc => by
    simp only [plain, Bool.and_eq_true] at hp
    simp only [dec0] at h
    split at h
    · rename_i x1 x2 h1 h2
      cases h
      have e1 := encW_dec hp.1 h1 (hc.take a.sz)
      have e2 := encW_dec hp.2 h2 (hc.drop a.sz)
      simp only [encW, ← e1, ← e2, List.take_append_drop]
    · cases h
  | .own _, _, _, _, hp, _, _ => by simp [plain] at hp
theorem keyOf_rel {pv : PV} {t : Ty} {x : t.T} {v : Value} (h : keyOf pv t = some x) (hr : PRel M Z w pv v) : v = keyV t x := by
  unfold keyOf at h
  split at h
  · split at h
    · rename_i e; cases h; subst e; exact hr
    · cases h
  · cases h; exact hr
  · cases h; exact hr
  · split at h
    · rename_i hp
      obtain ⟨vs, rfl, hc⟩ := hr
      rw [encW_dec hp h hc]; rfl
    · cases h
  · cases h
theorem evMakeMap_ok (hr : Rel E st M Z a w) {wit : Option Wit} {t : TypeId} (ho : o.op = .makeMap t none) (h : evMakeMap st wit t = some r) : MOk E M Z a w o r := by
  unfold evMakeMap at h
  split at h
  · rename_i ty _
    cases h
    refine ⟨M ++ [⟨some ⟨w.heap.size, 0, none⟩, 0, 0, fun k _ => k = w.heap.size⟩], { w with heap := w.heap.push (.map #[] 0) }, ?_, MSub.append M _, ?_, Keep.push w _, .map (some w.heap.size), ?_, ?_⟩
    · refine hr.new (p := ⟨some ⟨w.heap.size, 0, none⟩, 0, 0, fun k _ => k = w.heap.size⟩) (o := .mp ty [] none) (Keep.push w _) (fun k j h => by simp at h; subst h; simp) ?_
      exact ⟨w.heap.size, rfl, fun k j => Iff.rfl, #[], push_get w _, rfl, fun i x h => by simp [pent] at h⟩
    · exact fun i p' k j h1 h2 h3 => new_fresh (X := fun _ _ => False) (fun k j h => h) i p' k j h1 h2 h3 |>.elim .inl fun h => h.elim
    · simp [execOp, ho, Instr.makeMap]
    · exact ⟨⟨some ⟨w.heap.size, 0, none⟩, 0, 0, fun k _ => k = w.heap.size⟩, w.heap.size, by rw [← hr.ml]; simp, rfl, rfl⟩
  · cases h
theorem mp_chunk (hr : Rel E st M Z a w) {m : Operand} {i : Nat} {t : Ty} {es : List (t.T × Int)} {pd : Option t.T} (hm : opd st.T m = some (.p (.c (.mp i)))) (hH : st.H[i]? = some (.mp t es pd)) :
    ∃ p b mes, M[i]? = some p ∧ p.av = some ⟨b, 0, none⟩ ∧ a.eval m = .map (some b) ∧ (∀ k j, p.S k j ↔ k = b) ∧ w.heap[b]? = some (.map mes (pent es pd).length) ∧ mes.size = (pent es pd).length ∧
      ∀ (i : Nat) x, (pent es pd)[i]? = some x → ∃ e, mes[i]? = some e ∧ e.key = keyV t x.1 ∧ e.val = .int .i64 x.2 ∧ e.born = i := by
  obtain ⟨p, b, hp, ha, hv⟩ := opd_rel hr hm
  obtain ⟨b', ha', hS, mes, hb, hsz, hg⟩ := hr.ob i _ p hH hp
  rw [ha] at ha'; cases ha'
  exact ⟨p, b, mes, hp, ha, hv, hS, hb, hsz, hg⟩
theorem evLookup_ok (hr : Rel E st M Z a w) {mt : TypeId} {m k : Operand} (ho : o.op = .lookup mt m k false) (h : evLookup E.P st mt m k = some r) (hc : met r.c) : MOk E M Z a w o r := by
  unfold evLookup at h
  split at h
  · rename_i i pv hm hk
    split at h
    · rename_i t es pd hH
      simp only [Option.map_eq_some_iff] at h
      obtain ⟨x, hx, rfl⟩ := h
      obtain ⟨p, b, mes, hp, ha, hv, hS, hb, hsz, hg⟩ := mp_chunk hr hm hH
      have hpd : @mget _ t.deq (pent es pd) x = @mget _ t.deq es x := by
        cases pd with
        | none => rfl
        | some y => exact mget_ment
      have hkv : a.eval k = keyV t x := keyOf_rel hx (opd_rel hr hk)
      have hK : KeyT E.P mt t := hc
      obtain ⟨kt, el, hmt, hz, hck, hfk⟩ := hK.ty
      refine ⟨M, w, hr, MSub.refl M, noNew M, Keep.refl _ _, .int .i64 (@mget _ t.deq es x), ?_, rfl⟩
      rcases find_run hsz hg hK.inj hfk (P := E.P) (w := w) (x := x) with ⟨h1, _, h2, _⟩ | ⟨j, e, h1, _⟩
      · simp [execOp, ho, hv, hkv, Instr.lookup, run_underlying hmt, gobj hb, hck, h1, hz, ← hpd, h2, Result.andThen]
      · simp [execOp, ho, hv, hkv, Instr.lookup, run_underlying hmt, gobj hb, hck, h1, ← hpd, Result.andThen]
    · cases h
  · cases h
theorem Keep.setMap {w : World} {b : Nat} {es es' : Array MapEntry} {n n' : Nat} (hb : w.heap[b]? = some (.map es n)) {X : CS} (hX : ∀ j, X b j) : Keep w { w with heap := w.heap.setIfInBounds b (.map es' n') } X := by
  refine ⟨rfl, rfl, rfl, by simp, fun k hk => ?_⟩
  by_cases e : b = k
  · subst e
    exact .inr (.inr (.inl ⟨es, n, es', n', hb, by simp [hk], hX 0⟩))
  · exact .inl (by simp [e])
theorem mp_turn (hr : Rel E st M Z a w) {i : Nat} {t : Ty} {es' : List (t.T × Int)} {pd : Option t.T} {p : Pl} {b n : Nat} {mes mes' : Array MapEntry} (hp : M[i]? = some p) (ha : p.av = some ⟨b, 0, none⟩) (hS : ∀ k j, p.S k j ↔ k = b)
    (hfree : st.free i = true) (hb : w.heap[b]? = some (.map mes n)) (hsz : mes'.size = (pent es' pd).length) (hg : ∀ (i : Nat) x, (pent es' pd)[i]? = some x → ∃ e, mes'[i]? = some e ∧ e.key = keyV t x.1 ∧ e.val = .int .i64 x.2 ∧ e.born = i) :
    Rel E ⟨st.T, st.H.set i (.mp t es' pd)⟩ M Z a { w with heap := w.heap.setIfInBounds b (.map mes' (pent es' pd).length) } ∧ Keep w { w with heap := w.heap.setIfInBounds b (.map mes' (pent es' pd).length) } ((Rd.dep (some i)).set M Z) := by
  have hlt := (Array.getElem?_eq_some_iff.1 hb).1
  have hk : Keep w { w with heap := w.heap.setIfInBounds b (.map mes' (pent es' pd).length) } p.S := Keep.setMap hb fun j => (hS b j).2 rfl
  refine ⟨?_, hk.mono fun k j h => ⟨p, hp, h⟩⟩
  have := hr.upd hk hp (fun _ _ h => h) hfree (p' := p) rfl rfl rfl (fun _ _ h => h) (o' := .mp t es' pd) ?_
  · rwa [set_same hp] at this
  · exact ⟨b, ha, hS, mes', by simp [hlt], hsz, hg⟩
theorem evMapEntry_ok (hr : Rel E st M Z a w) {mt : TypeId} {m k : Operand} (ho : o.op = .mapEntry mt m k) (h : evMapEntry E.P st mt m k = some r) (hc : met r.c) : MOk E M Z a w o r := by
  unfold evMapEntry at h
  split at h
  · rename_i i pv hm hk
    split at h
    · rename_i t es hH
      split at h
      · rename_i hfree
        simp only [Option.map_eq_some_iff] at h
        obtain ⟨x, hx, rfl⟩ := h
        obtain ⟨p, b, mes, hp, ha, hv, hS, hb, hsz, hg⟩ := mp_chunk hr hm hH
        have hkv : a.eval k = keyV t x := keyOf_rel hx (opd_rel hr hk)
        have hK : KeyT E.P mt t := hc
        obtain ⟨kt, el, hmt, hz, hck, hfk⟩ := hK.ty
        replace hb : w.heap[b]? = some (.map mes es.length) := hb
        replace hsz : mes.size = es.length := hsz
        replace hg : ∀ (i : Nat) x, es[i]? = some x → ∃ e, mes[i]? = some e ∧ e.key = keyV t x.1 ∧ e.val = .int .i64 x.2 ∧ e.born = i := hg
        have hend : ∀ (mes' : Array MapEntry), mes'.size = (@ment _ t.deq es x).length → (∀ (i : Nat) y, (@ment _ t.deq es x)[i]? = some y → ∃ e, mes'[i]? = some e ∧ e.key = keyV t y.1 ∧ e.val = .int .i64 y.2 ∧ e.born = i) →
            (execOp a.eval o).run E.P w = .ok (.value (.tuple #[.int .i64 (@mget _ t.deq es x), .int .i64 (@mix _ t.deq es x : Nat)])) { w with heap := w.heap.setIfInBounds b (.map mes' (@ment _ t.deq es x).length) } →
            MOk E M Z a w o ⟨some (.tup [.c (.int .i64 (@mget _ t.deq es x)), .c (.int .i64 (@mix _ t.deq es x : Nat))]), ⟨st.T, st.H.set i (.mp t es (some x))⟩, some (KeyT E.P mt t), .dep (some i)⟩ := by
          intro mes' hs' hg' hrun
          obtain ⟨h1, h2⟩ := mp_turn (es' := es) (pd := some x) hr hp ha hS hfree hb hs' hg'
          exact ⟨M, _, h1, MSub.refl M, noNew M, h2, _, hrun, ⟨_, rfl, _, _, rfl, rfl, _, _, rfl, rfl, rfl⟩⟩
        rcases find_run hsz hg hK.inj hfk (P := E.P) (w := w) (x := x) with ⟨h1, h2, h3, h4⟩ | ⟨j, e, h1, h2, h3, h5, h6, h7⟩
        · refine hend (mes.push { key := keyV t x, val := .int .i64 0, born := es.length }) (by rw [h4]; simp [hsz]) (fun i y hi => ?_) ?_
          · rw [h4, List.getElem?_append] at hi
            split at hi
            · rename_i hl
              obtain ⟨e, he, hh⟩ := hg i y hi
              exact ⟨e, by rw [Array.getElem?_push]; simp [hsz, Nat.ne_of_lt hl, he], hh⟩
            · rename_i hl
              have : i = es.length := by
                have := (List.getElem?_eq_some_iff.1 hi).1
                simp at this; omega
              subst this
              simp at hi; subst hi
              exact ⟨_, by rw [Array.getElem?_push]; simp [hsz]; rfl, rfl, rfl, rfl⟩
          · simp [execOp, ho, hv, hkv, Instr.mapEntry, run_underlying hmt, gobj hb, hck, h1, hz, h2, h3, h4, Result.andThen, sobj hb, goInt]
        · have hm : mes.modify j (fun e => { e with key := keyV t x }) = mes := by
            refine Array.ext_getElem? fun i => ?_
            rw [Array.getElem?_modify]
            split
            · rename_i e1; subst e1
              rw [h5]
              simp [← h6]
            · rfl
          refine hend mes (by rw [h3, hsz]) (fun i y hi => hg i y (by rwa [h3] at hi)) ?_
          simp only [execOp, ho, hv, hkv, Instr.mapEntry, run_underlying hmt, Sem.run_bind, Result.andThen_ok, gobj hb, hck, h1, h5, Option.map_some, Option.getD_some, h6, h7, h2, h3, Instr.keyThatStays, hK.sb, if_true, Sem.run_pure, hm, sobj hb, goInt]
      · cases h
    · cases h
  · cases h
theorem evEntryStore_ok (hr : Rel E st M Z a w) {mt : TypeId} {m s x : Operand} (ho : o.op = .entryStore mt m s x) (h : evEntryStore st m s x = some r) (hc : met r.c) : MOk E M Z a w o r := by
  unfold evEntryStore at h
  split at h
  · rename_i i kk n v hm hs hx
    split at h
    · rename_i t es y hH
      split at h
      · rename_i hfree
        cases h
        obtain ⟨p, b, mes, hp, ha, hv, hS, hb, hsz, hg⟩ := mp_chunk hr hm hH
        have hsv : a.eval s = .int kk n := opd_rel hr hs
        have hxv : a.eval x = .int .i64 v := opd_rel hr hx
        have hn : n = ((@mix _ t.deq es y : Nat) : Int) := hc
        have hml : @mix _ t.deq es y < (pent es (some y)).length := mix_lt
        have hnn : n.toNat = @mix _ t.deq es y := by omega
        have hmp : @mput _ t.deq es y v = (pent es (some y)).modify (@mix _ t.deq es y) (fun e => (e.1, v)) := mput_ment.symm
        have hfi : mes.findIdx? (fun e => (e.born : Int) == n) = some n.toNat := by
          rw [Array.findIdx?_eq_some_iff_findIdx_eq]
          have hlt : n.toNat < mes.size := by omega
          refine ⟨hlt, ?_⟩
          rw [Array.findIdx_eq hlt]
          have hbn : ∀ i (hi : i < mes.size), (mes[i]).born = i := fun i hi => by
            obtain ⟨e, he, _, _, hh⟩ := hg i (pent es (some y))[i] (by simp [hsz ▸ hi])
            rw [Array.getElem?_eq_getElem hi] at he
            cases he; exact hh
          refine ⟨by rw [hbn]; simp; omega, fun j hj => by rw [hbn]; simp; omega⟩
        have hlen : (@mput _ t.deq es y v).length = (pent es (some y)).length := by rw [hmp]; simp
        have hrun : (execOp a.eval o).run E.P w = .ok .skip { w with heap := w.heap.setIfInBounds b (.map (mes.modify n.toNat fun e => { e with val := .int .i64 v }) (@mput _ t.deq es y v).length) } := by
          have hai : (asIntOf (.int kk n)).run E.P w = .ok (kk, n) w := rfl
          simp [execOp, ho, hv, hsv, hxv, Instr.entryStore, gobj hb, Result.andThen, sobj hb, asInt, hai, hfi, hlen]
        obtain ⟨h2, h3⟩ := mp_turn (es' := @mput _ t.deq es y v) (pd := none) hr hp ha hS hfree hb (mes' := mes.modify n.toNat fun e => { e with val := .int .i64 v }) (by simp only [pent]; simp [hlen, hsz]) fun i z hi => by
          simp only [pent] at hi
          rw [hmp, List.getElem?_modify] at hi
          obtain ⟨y0, hy0, hy1⟩ := Option.map_eq_some_iff.1 hi
          obtain ⟨e, he, h4, h5, h6⟩ := hg i y0 hy0
          rw [Array.getElem?_modify]
          by_cases hh : n.toNat = i
          · subst hh
            rw [if_pos hnn.symm] at hy1
            rw [if_pos rfl]
            subst hy1
            exact ⟨{ e with val := .int .i64 v }, by rw [he]; rfl, h4, rfl, h6⟩
          · rw [if_neg (by omega)] at hy1
            rw [if_neg hh]
            subst hy1
            exact ⟨e, by rw [he], h4, h5, h6⟩
        exact ⟨M, _, h2, MSub.refl M, noNew M, h3, hrun⟩
      · cases h
    · cases h
  · cases h
end
def scal (P : Program) (ty : TypeId) : Ty → Bool
  | .int k => match P.underlying ty with | some (.int k') => k == k' | _ => false
  | .bool => match P.underlying ty with | some .bool => true | _ => false
  | .str => match P.underlying ty with | some .string => true | _ => false
  | _ => false
def keyF (P : Program) : Ty → Nat → List Field → Bool
  | .pair a b, n, f :: fs => f.name != "_" && (f.offset == n && (scal P f.type a && keyF P b (n + 1) fs))
  | t, n, [f] => f.name != "_" && (f.offset == n && scal P f.type t)
  | _, _, _ => false
theorem encW_inj : ∀ {t : Ty} {x y : t.T}, plain t = true → encW t x = encW t y → x = y
  | .int _, _, _, _, h => by simpa [encW] using h
  | .bool, _, _, _, h => by simpa [encW] using h
  | .str, _, _, _, h => by simpa [encW] using h
  | .pair a b, (x1, x2), (y1, y2), hp, h => by
    simp only [plain, Bool.and_eq_true] at hp
    have hl : ∀ {t : Ty} (x y : t.T), (encW t x).length = (encW t y).length := by
      intro t
      induction t with
      | pair a b iha ihb => intro x y; simp [encW, iha x.1 y.1, ihb x.2 y.2]
      | _ => intro x y; rfl
    obtain ⟨h1, h2⟩ := List.append_inj h (hl _ _)
    have e1 : x1 = y1 := encW_inj hp.1 h1
    have e2 : x2 = y2 := encW_inj hp.2 h2
    rw [e1, e2]
  | .own _, _, _, hp, _ => by simp [plain] at hp
theorem scal_run {P : Program} {ty : TypeId} {t : Ty} (h : scal P ty t = true) (x y : t.T) (dd : Nat) (w : World) : ∃ v u, encW t x = [v] ∧ encW t y = [u] ∧ (∃ d, P.underlying ty = some d ∧ (∀ fs, d ≠ .struct fs) ∧ (∀ n e, d ≠ .array n e)) ∧
    (Op.equalIn (dd + 1) ty v u).run P w = .ok (@decide (x = y) (t.deq x y)) w := by
  cases t with
  | int k =>
    simp only [scal] at h
    split at h
    · rename_i d hu
      have e := eq_of_beq h
      subst e
      exact ⟨_, _, rfl, rfl, ⟨_, hu, (fun _ h => by cases h), (fun _ _ h => by cases h)⟩, by rw [run_equalIn_int w dd ty _ k x y hu]; congr⟩
    · cases h
  | bool =>
    simp only [scal] at h
    split at h
    · rename_i hu
      exact ⟨_, _, rfl, rfl, ⟨_, hu, (fun _ h => by cases h), (fun _ _ h => by cases h)⟩, by rw [run_equalIn_bool' w dd ty x y hu]; congr⟩
    · cases h
  | str =>
    simp only [scal] at h
    split at h
    · rename_i hu
      refine ⟨_, _, rfl, rfl, ⟨_, hu, (fun _ h => by cases h), (fun _ _ h => by cases h)⟩, ?_⟩
      rw [run_equalIn_string w dd ty x y hu]
      congr 1
      rw [Bool.eq_iff_iff]
      simp only [beq_iff_eq, decide_eq_true_eq]
      refine ⟨fun h => ?_, fun h => by rw [h]⟩
      exact ByteArray.ext (by simpa [ByteArray.toList_eq] using h)
    · cases h
  | pair a b => cases h
  | own t => cases h
theorem eqFields_key {P : Program} (dd : Nat) (w : World) : ∀ {t : Ty} {fs : List Field} {x y : t.T} {n : Nat} {pre pre' : List Value}, keyF P t n fs = true → pre.length = n → pre'.length = n →
    (Op.eqFields (dd + 1) (pre ++ encW t x).toArray (pre' ++ encW t y).toArray fs).run P w = .ok (@decide (x = y) (t.deq x y)) w := by
  have one : ∀ {t : Ty} {f : Field} {fs : List Field} {x y : t.T} {n : Nat} {pre pre' post post' : List Value} {q : Bool}, (f.name != "_") = true → f.offset = n → scal P f.type t = true → pre.length = n → pre'.length = n →
      (Op.eqFields (dd + 1) (pre ++ encW t x ++ post).toArray (pre' ++ encW t y ++ post').toArray fs).run P w = .ok q w →
      (Op.eqFields (dd + 1) (pre ++ encW t x ++ post).toArray (pre' ++ encW t y ++ post').toArray (f :: fs)).run P w = .ok (@decide (x = y) (t.deq x y) && q) w := by
    intro t f fs x y n pre pre' post post' q hn ho hs h1 h2 hq
    obtain ⟨v, u, e1, e2, ⟨d, hu, hd1, hd2⟩, hrun⟩ := scal_run hs x y dd w
    rw [e1, e2] at hq ⊢
    have hv : (pre ++ [v] ++ post)[f.offset]? = some v := by rw [ho, ← h1]; simp
    have hu' : (pre' ++ [u] ++ post')[f.offset]? = some u := by rw [ho, ← h2]; simp
    have hn' : f.name ≠ "_" := by simpa using hn
    simp only [Op.eqFields, if_pos hn', Sem.run_bind, run_part hu hd1 hd2 hv, run_part hu hd1 hd2 hu', Result.andThen_ok, hrun]
    cases hb : @decide (x = y) (t.deq x y)
    · simp
    · simpa using hq
  have last : ∀ {t : Ty} {fs : List Field} {x y : t.T} {n : Nat} {pre pre' : List Value}, (∃ f, fs = [f] ∧ (f.name != "_") = true ∧ f.offset = n ∧ scal P f.type t = true) → pre.length = n → pre'.length = n →
      (Op.eqFields (dd + 1) (pre ++ encW t x).toArray (pre' ++ encW t y).toArray fs).run P w = .ok (@decide (x = y) (t.deq x y)) w := by
    rintro t fs x y n pre pre' ⟨f, rfl, hn, ho, hs⟩ h1 h2
    have := one (x := x) (y := y) (post := []) (post' := []) (fs := []) (q := true) hn ho hs h1 h2 rfl
    simpa using this
  intro t
  induction t with
  | pair a b _ ihb =>
    intro fs x y n pre pre' hk h1 h2
    cases fs with
    | nil => simp [keyF] at hk
    | cons f fs =>
      simp only [keyF, Bool.and_eq_true, beq_iff_eq] at hk
      obtain ⟨hn, ho, hs, hk⟩ := hk
      have hone : ∀ z : a.T, (encW a z).length = 1 := fun z => by
        obtain ⟨v, _, e, _⟩ := scal_run hs z z dd w
        rw [e]; rfl
      have hr := ihb (x := x.2) (y := y.2) (pre := pre ++ encW a x.1) (pre' := pre' ++ encW a y.1) hk (by simp [hone, h1]) (by simp [hone, h2])
      have := one (x := x.1) (y := y.1) (post := encW b x.2) (post' := encW b y.2) hn ho hs h1 h2 hr
      simp only [encW, ← List.append_assoc]
      rw [this]
      congr 1
      rw [Bool.eq_iff_iff]
      simp [Prod.ext_iff]
  | int k =>
    intro fs x y n pre pre' hk h1 h2
    refine last ?_ h1 h2
    unfold keyF at hk
    split at hk <;> simp_all
  | bool =>
    intro fs x y n pre pre' hk h1 h2
    refine last ?_ h1 h2
    unfold keyF at hk
    split at hk <;> simp_all
  | str =>
    intro fs x y n pre pre' hk h1 h2
    refine last ?_ h1 h2
    unfold keyF at hk
    split at hk <;> simp_all
  | own t _ =>
    intro fs x y n pre pre' hk h1 h2
    unfold keyF at hk
    split at hk <;> simp_all [scal]
theorem forIn_all {P : Program} {w : World} {body : Field → Unit → Sem (ForInStep Unit)} : ∀ {fs : List Field}, (∀ f, f ∈ fs → (body f ()).run P w = .ok (.yield ()) w) → (forIn fs () body).run P w = .ok () w
  | [], _ => by simp [Sem.run_pure]
  | f :: fs, h => by
    rw [List.forIn_cons]
    simp only [Sem.run_bind, h f (List.mem_cons_self), Result.andThen_ok]
    exact forIn_all fun f' hf => h f' (List.mem_cons_of_mem _ hf)
theorem key_fields {P : Program} : ∀ {t : Ty} {fs : List Field} {x : t.T} {n : Nat} {pre : List Value}, keyF P t n fs = true → pre.length = n →
    ∀ f, f ∈ fs → f.name ≠ "_" ∧ ∃ v d, (pre ++ encW t x)[f.offset]? = some v ∧ P.underlying f.type = some d ∧ MapKept.IsKey d v ∧ (∀ fs, d ≠ .struct fs) ∧ (∀ n e, d ≠ .array n e) := by
  have one : ∀ {t : Ty} {f : Field} {x : t.T} {n : Nat} {pre post : List Value}, (f.name != "_") = true → f.offset = n → scal P f.type t = true → pre.length = n →
      f.name ≠ "_" ∧ ∃ v d, (pre ++ encW t x ++ post)[f.offset]? = some v ∧ P.underlying f.type = some d ∧ MapKept.IsKey d v ∧ (∀ fs, d ≠ .struct fs) ∧ (∀ n e, d ≠ .array n e) := by
    intro t f x n pre post hn ho hs h1
    refine ⟨by simpa using hn, ?_⟩
    cases t with
    | int k =>
      simp only [scal] at hs
      split at hs
      · rename_i k' hu; have := eq_of_beq hs; subst this
        exact ⟨_, _, by rw [ho, ← h1]; simp [encW]; rfl, hu, by simp [MapKept.IsKey], (fun _ h => by cases h), (fun _ _ h => by cases h)⟩
      · cases hs
    | bool =>
      simp only [scal] at hs
      split at hs
      · rename_i hu
        exact ⟨_, _, by rw [ho, ← h1]; simp [encW]; rfl, hu, by simp [MapKept.IsKey], (fun _ h => by cases h), (fun _ _ h => by cases h)⟩
      · cases hs
    | str =>
      simp only [scal] at hs
      split at hs
      · rename_i hu
        exact ⟨_, _, by rw [ho, ← h1]; simp [encW]; rfl, hu, by simp [MapKept.IsKey], (fun _ h => by cases h), (fun _ _ h => by cases h)⟩
      · cases hs
    | pair a b => cases hs
    | own t => cases hs
  have last : ∀ {t : Ty} {fs : List Field} {x : t.T} {n : Nat} {pre : List Value}, (∃ f, fs = [f] ∧ (f.name != "_") = true ∧ f.offset = n ∧ scal P f.type t = true) → pre.length = n →
      ∀ f, f ∈ fs → f.name ≠ "_" ∧ ∃ v d, (pre ++ encW t x)[f.offset]? = some v ∧ P.underlying f.type = some d ∧ MapKept.IsKey d v ∧ (∀ fs, d ≠ .struct fs) ∧ (∀ n e, d ≠ .array n e) := by
    rintro t fs x n pre ⟨f, rfl, hn, ho, hs⟩ h1 f' hf
    simp only [List.mem_singleton] at hf; subst hf
    have := one (x := x) (post := []) hn ho hs h1
    simpa using this
  intro t
  induction t with
  | pair a b _ ihb =>
    intro fs x n pre hk h1
    cases fs with
    | nil => simp [keyF] at hk
    | cons f fs =>
      simp only [keyF, Bool.and_eq_true, beq_iff_eq] at hk
      obtain ⟨hn, ho, hs, hk⟩ := hk
      have hone : ∀ z : a.T, (encW a z).length = 1 := fun z => by
        cases a <;> first | rfl | cases hs
      intro f' hf
      simp only [encW, ← List.append_assoc]
      rcases List.mem_cons.1 hf with rfl | hf
      · exact one (x := x.1) (post := encW b x.2) hn ho hs h1
      · exact ihb (x := x.2) (pre := pre ++ encW a x.1) hk (by simp [hone, h1]) f' hf
  | own t _ =>
    intro fs x n pre hk h1
    unfold keyF at hk
    split at hk <;> simp_all [scal]
  | _ =>
    intro fs x n pre hk h1
    refine last ?_ h1
    unfold keyF at hk
    split at hk <;> simp_all
theorem check_struct {P : Program} {kt : TypeId} {a b : Ty} (hk : P.underlying kt = some (.struct (P.fieldsOf kt))) (hkf : keyF P (.pair a b) 0 (P.fieldsOf kt).toList = true) (x : (Ty.pair a b).T) (em : Bool) (w : World) :
    (Instr.checkKey em 10000 kt (keyV (.pair a b) x)).run P w = .ok () w := by
  have h := key_fields (P := P) (x := x) (pre := []) hkf rfl
  rw [show (10000 : Nat) = 9999 + 1 from rfl, Instr.checkKey]
  simp only [keyV, Sem.run_bind, run_underlying hk, Result.andThen_ok]
  rw [← Array.forIn_toList]
  rw [forIn_all]
  · simp
  · intro f hf
    obtain ⟨hn, v, d, hv, hu, hkey, h1, h2⟩ := h f hf
    simp only [List.nil_append] at hv
    simp [hn, run_part hu h1 h2 hv, MapKept.run_checkKey hu hkey em 9998, Result.andThen]
theorem keyT_struct {P : Program} {mt kt el : TypeId} {a b : Ty} (hm : P.underlying mt = some (.map kt el)) (hk : P.underlying kt = some (.struct (P.fieldsOf kt))) (hst : (P.stoodInHeld kt) = false) (hkf : keyF P (.pair a b) 0 (P.fieldsOf kt).toList = true)
    (hp : plain (.pair a b) = true) (hz : ∀ w, (zeroValue el).run P w = .ok (.int .i64 0) w) (hsb : ∀ x, Instr.sameBits 10000 (keyV (.pair a b) x) (keyV (.pair a b) x) = true) : KeyT P mt (.pair a b) := by
  have hinj : ∀ x y, keyV (.pair a b) x = keyV (.pair a b) y → x = y := fun x y h => encW_inj hp (by simpa [keyV] using h)
  refine ⟨⟨kt, el, hm, hz, check_struct hk hkf, fun x l w hl => ?_⟩, hinj, hsb⟩
  have heq : ∀ x y, (Op.equal kt (keyV (.pair a b) x) (keyV (.pair a b) y)).run P w = .ok (@decide (x = y) ((Ty.pair a b).deq x y)) w := fun x y => by
    have := eqFields_key (P := P) 9998 w (x := x) (y := y) (pre := []) (pre' := []) hkf rfl rfl
    simp only [Op.equal, Op.maxDepth, keyV]
    rw [run_equalIn_struct w 9999 kt _ _ hk hst]
    simpa using this
  have key : ∀ (l : List MapEntry) (i : Nat), (∀ e, e ∈ l → ∃ y : (Ty.pair a b).T, e.key = keyV (.pair a b) y) →
      ((Instr.findAsking kt (keyV (.pair a b) x) l i).run P w = .ok none w ∧ ∀ e, e ∈ l → e.key ≠ keyV (.pair a b) x) ∨
      ∃ (j : Nat) (e : MapEntry), (Instr.findAsking kt (keyV (.pair a b) x) l i).run P w = .ok (some (i + j, e.val)) w ∧ l[j]? = some e ∧ e.key = keyV (.pair a b) x ∧ ∀ i, i < j → ∀ e', l[i]? = some e' → e'.key ≠ keyV (.pair a b) x := by
    intro l
    induction l with
    | nil => intro i _; exact .inl ⟨rfl, by simp⟩
    | cons e es ih =>
      intro i h
      obtain ⟨y, hy⟩ := h e (List.mem_cons_self)
      by_cases hxy : x = y
      · subst hxy
        exact .inr ⟨0, e, by simp [Instr.findAsking, hy, heq, Result.andThen], rfl, hy, fun i hi => by omega⟩
      · have hne : e.key ≠ keyV (.pair a b) x := by rw [hy]; exact fun h => hxy (hinj _ _ h).symm
        rcases ih (i + 1) fun e' he => h e' (List.mem_cons_of_mem _ he) with ⟨h1, h2⟩ | ⟨j, e', h1, h2, h3, h4⟩
        · exact .inl ⟨by simp [Instr.findAsking, hy, heq, Result.andThen, hxy, h1], fun e' he => by
            rcases List.mem_cons.1 he with rfl | he
            · exact hne
            · exact h2 e' he⟩
        · refine .inr ⟨j + 1, e', by simp [Instr.findAsking, hy, heq, Result.andThen, hxy, h1]; omega, by simpa using h2, h3, fun q hq e'' he'' => ?_⟩
          cases q with
          | zero => simp at he''; subst he''; exact hne
          | succ q => exact h4 q (by omega) e'' (by simpa using he'')
  have hfind : (Instr.findKey kt (keyV (.pair a b) x) l).run P w = (Instr.findAsking kt (keyV (.pair a b) x) l).run P w := run_findKey_eq w (by rw [hk]) _ _
  rcases key l 0 hl with ⟨h1, h2⟩ | ⟨j, e, h1, h2⟩
  · exact ⟨none, hfind.trans h1, .inl ⟨rfl, h2⟩⟩
  · exact ⟨some (j, e.val), hfind.trans (by simpa using h1), .inr ⟨j, e, rfl, h2⟩⟩
end Go.Proofs.YtmbbapeiikifgaaGreatDoor
