/- Reads: the value of an operation that writes nothing, on symbolic values, with the condition that it asks. -/
import Derived.Test.YtmbbapeiikifgaaGreatDoorSlE
namespace Go.Proofs.YtmbbapeiikifgaaGreatDoor
open Go
theorem addr_add (b f i : Nat) : (⟨b, f, none⟩ : Addr).add i = ⟨b, f + i, none⟩ := by
  unfold Addr.add
  split
  · rename_i h; subst h; rfl
  · rfl
def flat (P : Program) (t : TypeId) : Option (Option Nat) :=
  match P.underlying t with
  | some (.struct _) => (P.info? t).map fun i => some i.size
  | some (.array _ _) => (P.info? t).map fun i => some i.size
  | some _ => some none
  | none => none
theorem run_isAgg {P : Program} {t : TypeId} {r : Option Nat} (h : flat P t = some r) (w : World) : (isAgg t).run P w = .ok r.isSome w := by
  unfold flat at h
  cases hu : P.underlying t with
  | none => rw [hu] at h; simp at h
  | some d =>
    rw [hu] at h
    cases d <;> first
      | (simp only [Option.map_eq_some_iff] at h
         obtain ⟨i, hi, rfl⟩ := h
         simp [isAgg, underlying, program, bind, Sem.bind, Sem.run, hu, pure])
      | (simp only [Option.some.injEq] at h
         subst h
         simp [isAgg, underlying, program, bind, Sem.bind, Sem.run, hu, pure])
theorem run_bind {P : Program} {α β : Type} (s : Sem α) (f : α → Sem β) : ∀ {w w' : World} {a : α}, s.run P w = .ok a w' → (s.bind f).run P w = (f a).run P w' := by
  induction s with
  | pure a => intro w w' b h; simp [Sem.run] at h; obtain ⟨rfl, rfl⟩ := h; rfl
  | program k ih => intro w w' b h; exact ih P h
  | mark m k ih => intro w w' b h; exact ih h
  | load m a k ih =>
    intro w w' b h
    simp only [Sem.run, Sem.bind] at h ⊢
    cases hc : w.cell? a with
    | some v => rw [hc] at h; exact ih v h
    | none =>
      rw [hc] at h
      dsimp only at h ⊢
      cases hf : w.farLoad P a (m == .atomic) with
      | error e => rw [hf] at h; cases h
      | ok r => rw [hf] at h; exact ih r.1 h
  | store m a v k ih =>
    intro w w' b h
    cases v <;> simp only [Sem.run, Sem.bind] at h ⊢ <;> first
      | cases h
      | (cases hc : w.cell? a with
         | some u =>
           rw [hc] at h
           dsimp only at h ⊢
           split at h
           · cases h
           · rename_i hh; rw [if_neg hh]; exact ih h
         | none =>
           rw [hc] at h
           dsimp only at h ⊢
           split at h
           · rename_i heq; exact ih h
           · cases h)
  | new o k ih => intro w w' b h; exact ih _ h
  | shape r k ih => intro w w' b h; exact ih _ h
  | freeze a n k ih => intro w w' b h; exact ih h
  | frozen a k ih => intro w w' b h; exact ih _ h
  | getObj r k ih =>
    intro w w' b h
    simp only [Sem.run, Sem.bind] at h ⊢
    split at h
    · cases h
    · exact ih _ h
    · cases h
  | setObj r o k ih =>
    intro w w' b h
    simp only [Sem.run, Sem.bind] at h ⊢
    split at h
    · cases h
    · exact ih h
    · cases h
  | choose q k ih =>
    intro w w' b h
    simp only [Sem.run, Sem.bind] at h ⊢
    split at h
    · rename_i hq; rw [if_pos hq]; exact ih _ h
    · rename_i hq; rw [if_neg hq]; exact ih _ h
  | sys c k ih => intro w w' b h; exact ih _ h
  | halt x => intro w w' b h; simp [Sem.run] at h
theorem run_load {P : Program} {a : Addr} {v : Value} {w : World} (h : w.cell? a = some v) : (load a).run P w = .ok v w := by
  simp [load, Sem.run, h]
theorem run_loadCellsFrom {P : Program} {a : Addr} {w : World} : ∀ (vs : List Value) (i : Nat) (acc : Array Value), (∀ j v, vs[j]? = some v → w.cell? (a.add (i + j)) = some v) →
    (loadCellsFrom a i vs.length acc).run P w = .ok (acc ++ vs.toArray) w
  | [], i, acc, _ => by simp [loadCellsFrom, pure]
  | v :: vs, i, acc, h => by
    have h0 : (load (a.add i)).run P w = .ok v w := run_load (by have := h 0 v rfl; rwa [Nat.add_zero] at this)
    simp only [List.length_cons, loadCellsFrom]
    show ((load (a.add i)).bind _).run P w = _
    rw [run_bind _ _ h0, run_loadCellsFrom vs (i + 1) _ fun j u hj => by have := h (j + 1) u (by simpa using hj); rwa [← Nat.add_assoc, Nat.add_right_comm] at this]
    simp
theorem run_sizeOf {P : Program} {t : TypeId} {i : TypeInfo} (h : P.info? t = some i) (w : World) : (sizeOf t).run P w = .ok i.size w := by
  simp [sizeOf, typeInfo, program, bind, Sem.bind, Sem.run, h, pure]
theorem flat_info {P : Program} {t : TypeId} {n : Nat} (h : flat P t = some (some n)) : ∃ i, P.info? t = some i ∧ i.size = n := by
  unfold flat at h
  split at h <;> first
    | (simp only [Option.map_eq_some_iff, Option.some.injEq] at h
       obtain ⟨i, hi, hn⟩ := h
       exact ⟨i, hi, hn⟩)
    | simp at h
theorem run_loadVar_cell {P : Program} {t : TypeId} (h : flat P t = some none) {b f : Nat} {v : Value} {w : World} (hc : w.cell? ⟨b, f, none⟩ = some v) :
    (loadVar t ⟨b, f, none⟩).run P w = .ok v w := by
  unfold loadVar
  show ((isAgg t).bind _).run P w = _
  rw [run_bind _ _ (run_isAgg h w)]
  exact run_load hc
theorem run_loadVar_agg {P : Program} {t : TypeId} {n : Nat} (h : flat P t = some (some n)) {b f : Nat} {vs : List Value} {w : World} (hn : vs.length = n)
    (hc : ∀ i v, vs[i]? = some v → w.cell? ⟨b, f + i, none⟩ = some v) : (loadVar t ⟨b, f, none⟩).run P w = .ok (.agg vs.toArray) w := by
  obtain ⟨i, hi, hs⟩ := flat_info h
  unfold loadVar
  show ((isAgg t).bind _).run P w = _
  rw [run_bind _ _ (run_isAgg h w)]
  show ((sizeOf t).bind _).run P w = _
  rw [run_bind _ _ (run_sizeOf hi w)]
  show ((loadCells ⟨b, f, none⟩ i.size).bind _).run P w = _
  have := run_loadCellsFrom (P := P) (a := ⟨b, f, none⟩) (w := w) vs 0 #[] fun j v hj => by rw [Nat.zero_add, addr_add]; exact hc j v hj
  rw [hn, ← hs] at this
  rw [run_bind (loadCells ⟨b, f, none⟩ i.size) _ this]
  simp [pure]
def encC (d : Option Nat) : (t : Ty) → t.T → List C
  | .int k, x => [.int k x]
  | .bool, x => [.bool x]
  | .str, x => [.str x]
  | .pair a b, x => encC d a x.1 ++ encC d b x.2
  | .own t, xs => [.vw d t xs]
theorem encC_len (d : Option Nat) : ∀ (t : Ty) (x : t.T), (encC d t x).length = t.sz
  | .int _, _ => rfl
  | .bool, _ => rfl
  | .str, _ => rfl
  | .pair a b, x => by simp [encC, Ty.sz, encC_len d a, encC_len d b]
  | .own _, _ => rfl
theorem CsRel.append {M : List Pl} {Z : CS} {w : World} : ∀ {cs ds : List C} {vs us : List Value}, CsRel M Z w cs vs → CsRel M Z w ds us → CsRel M Z w (cs ++ ds) (vs ++ us)
  | [], ds, vs, us, h, h' => by simp [CsRel] at h; subst h; exact h'
  | c :: cs, ds, vs, us, ⟨v, r, hv, h1, h2⟩, h' => by subst hv; exact ⟨v, r ++ us, rfl, h1, h2.append h'⟩
theorem ElemRd.cells {M : List Pl} {Z : CS} {w : World} {d : Option Nat} : ∀ {t : Ty} {x : t.T} {b f : Nat}, ElemRd (zone M Z d) w t x b f →
    ∃ vs : List Value, CsRel M Z w (encC d t x) vs ∧ ∀ i v, vs[i]? = some v → w.cell? ⟨b, f + i, none⟩ = some v ∧ zone M Z d b (f + i)
  | .int k, x, b, f, ⟨h, hs⟩ => ⟨[.int k x], ⟨_, _, rfl, rfl, rfl⟩, fun i v hi => by
      cases i with
      | zero => simp at hi; subst hi; exact ⟨h, hs⟩
      | succ i => simp at hi⟩
  | .bool, x, b, f, ⟨h, hs⟩ => ⟨[.bool x], ⟨_, _, rfl, rfl, rfl⟩, fun i v hi => by
      cases i with
      | zero => simp at hi; subst hi; exact ⟨h, hs⟩
      | succ i => simp at hi⟩
  | .str, x, b, f, ⟨h, hs⟩ => ⟨[.string x], ⟨_, _, rfl, rfl, rfl⟩, fun i v hi => by
      cases i with
      | zero => simp at hi; subst hi; exact ⟨h, hs⟩
      | succ i => simp at hi⟩
  | .pair a c, x, b, f, ⟨h1, h2⟩ => by
    obtain ⟨vs, hv, hc⟩ := h1.cells
    obtain ⟨us, hu, hd⟩ := h2.cells
    have hl : vs.length = a.sz := by rw [hv.len, encC_len]
    refine ⟨vs ++ us, hv.append hu, fun i v hi => ?_⟩
    rw [List.getElem?_append] at hi
    split at hi
    · exact hc i v hi
    · rename_i hlt
      have := hd _ v hi
      rw [hl] at this hlt
      rwa [show f + a.sz + (i - a.sz) = f + i from by omega] at this
  | .own t, xs, b, f, ⟨av, cap, h, hs, hl, hr⟩ => ⟨[.slice av xs.length cap], ⟨_, _, rfl, ⟨av, cap, rfl, hl, hr⟩, rfl⟩, fun i v hi => by
      cases i with
      | zero => simp at hi; subst hi; exact ⟨h, hs⟩
      | succ i => simp at hi⟩
end Go.Proofs.YtmbbapeiikifgaaGreatDoor
