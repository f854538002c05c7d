/- slices.Insert at []int, told of symbolic states. -/
import Derived.Test.YtmbbapeiikifgaaGreatDoorSlLb
import Derived.Laws.IdiomCopy
import Derived.Laws.AppendOwn
namespace Go.Proofs.YtmbbapeiikifgaaGreatDoor
open Go
def F_slices_Insert_int (_ : Nat) (a1 : Int) (a2 : List Int) (a3 : List Int) : Option (List Int) :=
  if 0 ≤ a1 ∧ a1 ≤ a2.length ∧ 0 < a3.length ∧ (a2.length + a3.length) * 8 ≤ 140737488355328 then some (a2.take a1.toNat ++ a3 ++ a2.drop a1.toNat) else none
theorem setCells_get {b : Nat} : ∀ (vs : List Value) (o : Nat) (w : World) {c : Array Value} {e : TypeId} {fr : Nat × Nat}, w.heap[b]? = some (.cells c e fr) → o + vs.length ≤ c.size →
    ∃ c', (w.setCells b o vs).heap[b]? = some (.cells c' e fr) ∧ c'.size = c.size ∧ (∀ j, (j < o ∨ o + vs.length ≤ j) → c'[j]? = c[j]?) ∧ (∀ j v, vs[j]? = some v → c'[o + j]? = some v) ∧
      (∀ k, k ≠ b → (w.setCells b o vs).heap[k]? = w.heap[k]?) ∧ (w.setCells b o vs).heap.size = w.heap.size ∧ (w.setCells b o vs).os = w.os ∧ (w.setCells b o vs).tape = w.tape ∧ (w.setCells b o vs).output = w.output
  | [], o, w, c, e, fr, hb, _ => ⟨c, hb, rfl, fun _ _ => rfl, fun j v h => by simp at h, fun _ _ => rfl, rfl, rfl, rfl, rfl⟩
  | v :: vs, o, w, c, e, fr, hb, hl => by
    have hlt := (Array.getElem?_eq_some_iff.1 hb).1
    simp only [List.length_cons] at hl
    have hb1 : (w.setCell ⟨b, o, none⟩ v).heap[b]? = some (.cells (c.setIfInBounds o v) e fr) := by
      simp only [World.setCell, Array.getElem?_modify, if_true, hb]
      simp
    obtain ⟨c', h1, h2, h3, h4, h5, h6, h7, h8, h9⟩ := setCells_get vs (o + 1) (w.setCell ⟨b, o, none⟩ v) hb1 (by simp; omega)
    refine ⟨c', h1, by simpa using h2, fun j hj => ?_, fun j u hj => ?_, fun k hk => ?_, ?_, h7, h8, h9⟩
    · simp only [List.length_cons] at hj
      rw [h3 j (by omega), Array.getElem?_setIfInBounds]
      rw [if_neg (by omega)]
    · cases j with
      | zero =>
        simp at hj; subst hj
        rw [Nat.add_zero, h3 o (by omega), Array.getElem?_setIfInBounds]
        simp; omega
      | succ j =>
        have := h4 j u (by simpa using hj)
        rwa [show o + 1 + j = o + (j + 1) from by omega] at this
    · rw [World.setCells, h5 k hk]
      simp only [World.setCell, Array.getElem?_modify]
      simp [Ne.symm hk]
    · rw [World.setCells, h6]
      simp [World.setCell]
theorem rowInt {w : World} {xs : List Int} {p : Pl} (h : RowOwn w (.int .i64) xs p) : p.len = xs.length ∧
    ((p.av = none ∧ p.cap = 0 ∧ xs = []) ∨ ∃ g cur e, p.av = some ⟨g, 0, none⟩ ∧ w.heap[g]? = some (.cells cur e (0, 0)) ∧ cur.size = p.cap ∧ (xs.length ≤ p.cap ∧ p.cap ≤ 9223372036854775807) ∧ (∀ (j : Nat) (x : Int), xs[j]? = some x → cur[j]? = some (Value.int .i64 x)) ∧ ∀ k j, p.S k j ↔ k = g) := by
  obtain ⟨hl, h⟩ := h
  refine ⟨hl, h.imp (fun ⟨h1, h2, h3, _⟩ => ⟨h1, h2, h3⟩) ?_⟩
  rintro ⟨g, cur, e, ha, hg, hs, hc, Ss, he, _, _, hS⟩
  refine ⟨g, cur, e, ha, hg, by simpa [Ty.sz] using hs, hc, fun j x hj => ?_, fun k j => ?_⟩
  · obtain ⟨h1, _⟩ := he j x hj
    obtain ⟨c, e', fr, hb, hcc⟩ := cell_iff.1 h1
    rw [hg] at hb; cases hb
    simpa [Ty.sz] using hcc
  · rw [hS]
    constructor
    · rintro (h | ⟨i, hi, h⟩)
      · exact h
      · exact absurd h ((he i xs[i] (by simp [hi])).2 k j)
    · exact .inl
theorem mkRowInt {w : World} {xs : List Int} {g : Nat} {cur : Array Value} {e : TypeId} (hg : w.heap[g]? = some (.cells cur e (0, 0))) (hl : xs.length ≤ cur.size ∧ cur.size ≤ 9223372036854775807) (hc : ∀ (j : Nat) (x : Int), xs[j]? = some x → cur[j]? = some (Value.int .i64 x)) :
    RowOwn w (.int .i64) xs ⟨some ⟨g, 0, none⟩, xs.length, cur.size, fun k _ => k = g⟩ := by
  refine ⟨rfl, .inr ⟨g, cur, e, rfl, hg, by simp [Ty.sz], hl, fun _ => noS, fun j x hj => ⟨cell_iff.2 ⟨cur, e, (0, 0), hg, by simpa [Ty.sz] using hc j x hj⟩, fun _ _ h => h⟩, fun _ _ _ _ _ _ _ h => h.elim, fun _ _ _ h => h, fun k j => ?_⟩⟩
  constructor
  · exact .inl
  · rintro (h | ⟨_, _, h⟩)
    · exact h
    · exact h.elim
theorem ins_get {xs ys : List Int} {i : Nat} (hi : i ≤ xs.length) {j : Nat} {x : Int} (h : (xs.take i ++ ys ++ xs.drop i)[j]? = some x) :
    (j < i ∧ xs[j]? = some x) ∨ (∃ q, j = i + q ∧ ys[q]? = some x) ∨ ∃ q, j = i + ys.length + q ∧ (xs.drop i)[q]? = some x := by
  have htl : (xs.take i).length = i := by simp; omega
  rw [List.append_assoc, List.getElem?_append] at h
  split at h
  · rename_i hj
    rw [htl] at hj
    rw [List.getElem?_take_of_lt hj] at h
    exact .inl ⟨hj, h⟩
  · rename_i hj
    rw [htl] at h hj
    rw [List.getElem?_append] at h
    split at h
    · exact .inr (.inl ⟨j - i, by omega, h⟩)
    · rename_i hq
      exact .inr (.inr ⟨j - i - ys.length, by omega, h⟩)
def InsEnd (w : World) (g0 : Option Nat) (zs : List Int) (e : Ending) (w' : World) : Prop :=
  ∃ g cur el, e = .returned (.slice (some ⟨g, 0, none⟩) zs.length cur.size) ∧ w'.heap[g]? = some (.cells cur el (0, 0)) ∧ (zs.length ≤ cur.size ∧ cur.size ≤ 9223372036854775807) ∧ (∀ (j : Nat) (x : Int), zs[j]? = some x → cur[j]? = some (Value.int .i64 x)) ∧
    Keep w w' (fun k _ => some k = g0) ∧ (some g = g0 ∨ w.heap.size ≤ g)
theorem Spec.insert {P : Program} {f : FuncId}
    (h : ∀ (w : World) (xs ys : List Int) (p q : Pl) (i : Nat), RowOwn w (.int .i64) xs p → RowOwn w (.int .i64) ys q → Disj p.S q.S → i ≤ xs.length → 0 < ys.length → (xs.length + ys.length) * 8 ≤ 140737488355328 →
      Calls P f #[.slice p.av p.len p.cap, .int .i64 i, .slice q.av q.len q.cap] w (fun e w' => InsEnd w (p.av.map (·.block)) (xs.take i ++ ys ++ xs.drop i) e w'))
    (k : Nat) (a1 : Int) (a2 a3 r : List Int) (hF : F_slices_Insert_int k a1 a2 a3 = some r) : Spec P f [sL 0, iI a1, sL 1] [.row (.int .i64) a2, .row (.int .i64) a3] (sL 2) [.dead, .row (.int .i64) a3, .row (.int .i64) r] := by
  intro w M Z vs hH hA
  obtain ⟨v0, r0, rfl, hA0, v1, r1, rfl, hA1, v2, r2, rfl, hA2, rfl⟩ := hA
  unfold F_slices_Insert_int at hF
  split at hF
  · rename_i hc
    obtain ⟨hc1, hc2, hc3, hc4⟩ := hc
    cases hF
    have hv1 : v1 = .int .i64 a1 := hA1
    obtain ⟨p, hp, hrow⟩ := hH.get (i := 0) (o := .row (.int .i64) a2) rfl
    obtain ⟨q, hq, hrow2⟩ := hH.get (i := 1) (o := .row (.int .i64) a3) rfl
    obtain ⟨p1, hp1, hv0⟩ := hA0
    rw [hp] at hp1; cases hp1
    obtain ⟨q1, hq1, hv2⟩ := hA2
    rw [hq] at hq1; cases hq1
    replace hrow : RowOwn w (.int .i64) a2 p := hrow
    replace hrow2 : RowOwn w (.int .i64) a3 q := hrow2
    have hM : M = [p, q] := by
      have hl := hH.ml
      match M, hl, hp, hq with
      | [a, b], _, hp, hq => simp at hp hq; rw [hp, hq]
    subst hM
    have hdis := hH.dj 0 1 p q hp hq (by omega)
    have ha1 : ((a1.toNat : Nat) : Int) = a1 := by omega
    have hcall := h w a2 a3 p q a1.toNat hrow hrow2 hdis (by omega) hc3 hc4
    rw [ha1] at hcall
    rw [hv0, hv1, hv2]
    refine hcall.mono ?_
    rintro e w' ⟨g, cur, el, rfl, hg, hl, hcur, hk, hgg⟩
    have hpS : ∀ k j, (some k = p.av.map (·.block)) → p.S k j := by
      intro k j hkk
      obtain ⟨_, hr⟩ := rowInt hrow
      rcases hr with ⟨ha, _⟩ | ⟨g', cur', e', ha, _, _, _, _, hS⟩
      · rw [ha] at hkk; cases hkk
      · rw [ha] at hkk; simp at hkk; exact (hS k j).2 hkk
    have hk' : Keep w w' p.S := hk.mono fun k j h => hpS k j h
    have hglt : g < w'.heap.size := (Array.getElem?_eq_some_iff.1 hg).1
    have hnew : ∀ j, p.S g j ∨ fresh w g j := fun j => hgg.elim (fun h => .inl (hpS g j h)) .inr
    have hdq : ∀ j, ¬ q.S g j := fun j hs => (hnew j).elim (fun h => hdis g j h hs) fun h => by
      have := hH.lt 1 q g j hq hs; simp only [fresh] at h; omega
    have hdZ : ∀ j, ¬ Z g j := fun j hs => (hnew j).elim (fun h => hH.dz 0 p hp g j h hs) fun h => by
      have := hH.zl g j hs; simp only [fresh] at h; omega
    refine ⟨_, [{ p with S := noS }, q, ⟨some ⟨g, 0, none⟩, _, cur.size, fun k _ => k = g⟩], Z, rfl, ⟨⟨_, rfl, rfl⟩, ⟨rfl, fun i ob u ho hu => ?_, fun i j u u' hu hu' hne k l h1 h2 => ?_, fun i u hu k l h1 h2 => ?_, fun i u k j hu h1 => ?_, fun k j h => Nat.lt_of_lt_of_le (hH.zl k j h) hk.size, hH.gl.keep hk' (fun k j h => hH.dz 0 p hp k j h) fun _ _ h => h⟩,
      fun i u hu => ?_, hk'.mono fun k j h => ⟨0, p, hp, h⟩, fun _ _ h => h, fun _ _ h => .inl h, fun i u k j hu h1 => ?_⟩⟩
    · rcases two_get hu with ⟨rfl, rfl⟩ | ⟨rfl, rfl⟩ | ⟨rfl, rfl⟩
      · cases ho; exact fun _ _ h => h
      · cases ho; exact RowOwn.keep hk' hdis hrow2
      · cases ho; exact mkRowInt hg hl hcur
    · rcases two_get hu with ⟨rfl, rfl⟩ | ⟨rfl, rfl⟩ | ⟨rfl, rfl⟩
      · exact h1
      · rcases two_get hu' with ⟨rfl, rfl⟩ | ⟨rfl, rfl⟩ | ⟨rfl, rfl⟩
        · exact h2
        · exact hne rfl
        · have e : k = g := h2; subst e; exact hdq l h1
      · rcases two_get hu' with ⟨rfl, rfl⟩ | ⟨rfl, rfl⟩ | ⟨rfl, rfl⟩
        · exact h2
        · have e : k = g := h1; subst e; exact hdq l h2
        · exact hne rfl
    · rcases two_get hu with ⟨rfl, rfl⟩ | ⟨rfl, rfl⟩ | ⟨rfl, rfl⟩
      · exact h1
      · exact hH.dz 1 _ hq k l h1 h2
      · have e : k = g := h1; subst e; exact hdZ l h2
    · rcases two_get hu with ⟨rfl, rfl⟩ | ⟨rfl, rfl⟩ | ⟨rfl, rfl⟩
      · exact h1.elim
      · exact Nat.lt_of_lt_of_le (hH.lt 1 _ k j hq h1) hk.size
      · have e : k = g := h1; subst e; exact hglt
    · match i, hu with
      | 0, hu => simp at hu; subst hu; exact ⟨_, rfl, rfl, rfl, rfl⟩
      | 1, hu => simp at hu; subst hu; exact ⟨_, rfl, rfl, rfl, rfl⟩
      | n + 2, hu => simp at hu
    · rcases two_get hu with ⟨rfl, rfl⟩ | ⟨rfl, rfl⟩ | ⟨rfl, rfl⟩
      · exact h1.elim
      · exact .inl ⟨1, _, hq, h1⟩
      · have e : k = g := h1; subst e
        exact (hnew j).elim (fun h => .inl ⟨0, p, hp, h⟩) .inr
  · cases hF
end Go.Proofs.YtmbbapeiikifgaaGreatDoor
