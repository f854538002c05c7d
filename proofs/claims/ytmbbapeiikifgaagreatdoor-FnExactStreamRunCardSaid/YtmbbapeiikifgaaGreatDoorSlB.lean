/- How the readings of memory stand when the world moves on: facts that other cells' changes leave alone. -/
import Derived.Test.YtmbbapeiikifgaaGreatDoorSlA
namespace Go.Proofs.YtmbbapeiikifgaaGreatDoor
open Go
theorem SameBut.refl (X : Nat → Prop) (o : Option Obj) : SameBut X o o := .inl rfl
theorem Keep.refl (w : World) (S : CS) : Keep w w S := ⟨rfl, rfl, rfl, Nat.le_refl _, fun _ _ => .inl rfl⟩
theorem SameBut.trans {X Y : Nat → Prop} {o o1 o2 : Option Obj} (h : SameBut X o o1) (h' : SameBut Y o1 o2) (hy : ∀ j, Y j → X j) : SameBut X o o2 := by
  rcases h with rfl | ⟨c, c', e, fr, rfl, rfl, hs, hc⟩ | ⟨es, n, es', n', rfl, rfl, hx⟩ | ⟨c, c', e, fr, fr', rfl, rfl, hs, hx⟩
  · rcases h' with rfl | ⟨c, c', e, fr, rfl, rfl, hs, hc⟩ | ⟨es, n, es', n', rfl, rfl, hx⟩ | ⟨c, c', e, fr, fr', rfl, rfl, hs, hx⟩
    · exact .inl rfl
    · exact .inr (.inl ⟨c, c', e, fr, rfl, rfl, hs, fun j hj => hc j (fun h => hj (hy j h))⟩)
    · exact .inr (.inr (.inl ⟨es, n, es', n', rfl, rfl, hy _ hx⟩))
    · exact .inr (.inr (.inr ⟨c, c', e, fr, fr', rfl, rfl, hs, fun j => hy _ (hx j)⟩))
  · rcases h' with rfl | ⟨c1, c2, e1, fr1, h1, rfl, hs1, hc1⟩ | ⟨es, n, es', n', h1, rfl, hx⟩ | ⟨c1, c2, e1, fr1, fr2, h1, rfl, hs1, hx⟩
    · exact .inr (.inl ⟨c, c', e, fr, rfl, rfl, hs, hc⟩)
    · simp only [Option.some.injEq, Obj.cells.injEq] at h1
      obtain ⟨rfl, rfl, rfl⟩ := h1
      exact .inr (.inl ⟨c, c2, e, fr, rfl, rfl, hs1.trans hs, fun j hj => (hc1 j (fun h => hj (hy j h))).trans (hc j hj)⟩)
    · simp at h1
    · simp only [Option.some.injEq, Obj.cells.injEq] at h1
      obtain ⟨rfl, rfl, rfl⟩ := h1
      exact .inr (.inr (.inr ⟨c, c2, e, fr, fr2, rfl, rfl, hs1.trans hs, fun j => hy _ (hx j)⟩))
  · rcases h' with rfl | ⟨c1, c2, e1, fr1, h1, rfl, hs1, hc1⟩ | ⟨es1, n1, es2, n2, h1, rfl, hx1⟩ | ⟨c1, c2, e1, fr1, fr2, h1, rfl, hs1, hx⟩
    · exact .inr (.inr (.inl ⟨es, n, es', n', rfl, rfl, hx⟩))
    · simp at h1
    · exact .inr (.inr (.inl ⟨es, n, es2, n2, rfl, rfl, hx⟩))
    · simp at h1
  · rcases h' with rfl | ⟨c1, c2, e1, fr1, h1, rfl, hs1, hc1⟩ | ⟨es1, n1, es2, n2, h1, rfl, hx1⟩ | ⟨c1, c2, e1, fr1, fr2, h1, rfl, hs1, hx1⟩
    · exact .inr (.inr (.inr ⟨c, c', e, fr, fr', rfl, rfl, hs, hx⟩))
    · simp only [Option.some.injEq, Obj.cells.injEq] at h1
      obtain ⟨rfl, rfl, rfl⟩ := h1
      exact .inr (.inr (.inr ⟨c, c2, e, fr, fr', rfl, rfl, hs1.trans hs, hx⟩))
    · simp at h1
    · simp only [Option.some.injEq, Obj.cells.injEq] at h1
      obtain ⟨rfl, rfl, rfl⟩ := h1
      exact .inr (.inr (.inr ⟨c, c2, e, fr, fr2, rfl, rfl, hs1.trans hs, hx⟩))
theorem Keep.trans {w w1 w2 : World} {S S1 : CS} (h : Keep w w1 S) (h1 : Keep w1 w2 S1) (hs : ∀ k j, S1 k j → S k j ∨ fresh w k j) : Keep w w2 S :=
  ⟨h1.os.trans h.os, h1.tape.trans h.tape, h1.output.trans h.output, Nat.le_trans h.size h1.size, fun k hk =>
    (h.blk k hk).trans (h1.blk k (Nat.lt_of_lt_of_le hk h.size)) fun j hj => (hs k j hj).elim id fun hf => absurd hk (Nat.not_lt.2 hf)⟩
theorem Keep.mono {w w1 : World} {S S1 : CS} (h : Keep w w1 S) (hs : ∀ k j, S k j → S1 k j) : Keep w w1 S1 :=
  (Keep.refl w S1).trans h fun k j hk => .inl (hs k j hk)
theorem cell_lt {w : World} {b o : Nat} {v : Value} (h : w.cell? ⟨b, o, none⟩ = some v) : b < w.heap.size := by
  unfold World.cell? at h
  dsimp only at h
  split at h
  · rename_i c e fr hb
    exact (Array.getElem?_eq_some_iff.1 hb).1
  · cases h
theorem cell_iff {w : World} {b o : Nat} {v : Value} : w.cell? ⟨b, o, none⟩ = some v ↔ ∃ c e fr, w.heap[b]? = some (.cells c e fr) ∧ c[o]? = some v := by
  unfold World.cell?
  dsimp only
  constructor
  · intro h
    split at h
    · rename_i c e fr hb
      exact ⟨c, e, fr, hb, by simpa using h⟩
    · cases h
  · rintro ⟨c, e, fr, hb, hc⟩
    rw [hb]
    simpa using hc
theorem Keep.cell {w w' : World} {X : CS} (hk : Keep w w' X) {b o : Nat} {v : Value} (h : w.cell? ⟨b, o, none⟩ = some v) (hx : ¬ X b o) : w'.cell? ⟨b, o, none⟩ = some v := by
  obtain ⟨c, e, fr, hb, hc⟩ := cell_iff.1 h
  have hlt := (Array.getElem?_eq_some_iff.1 hb).1
  rcases hk.blk b hlt with h1 | ⟨c1, c2, e1, fr1, h1, h2, hs, hcc⟩ | ⟨es, n, es', n', h1, _⟩ | ⟨_, _, _, _, _, _, _, _, hxx⟩
  · exact cell_iff.2 ⟨c, e, fr, h1.trans hb, hc⟩
  · rw [hb] at h1
    simp only [Option.some.injEq, Obj.cells.injEq] at h1
    obtain ⟨rfl, rfl, rfl⟩ := h1
    exact cell_iff.2 ⟨c2, e, fr, h2, (hcc o hx).trans hc⟩
  · rw [hb] at h1; cases h1
  · exact absurd (hxx o) hx
theorem Keep.frozen {w w' : World} {X : CS} (hk : Keep w w' X) {b o : Nat} (hlt : b < w.heap.size) (hx : ¬ X b o) : w'.frozen? ⟨b, o, none⟩ = w.frozen? ⟨b, o, none⟩ := by
  rcases hk.blk b hlt with h1 | ⟨c1, c2, e1, fr1, h1, h2, hs, hcc⟩ | ⟨es, n, es', n', h1, h2, _⟩ | ⟨_, _, _, _, _, _, _, _, hxx⟩
  · simp [World.frozen?, h1]
  · simp [World.frozen?, h1, h2]
  · simp [World.frozen?, h1, h2]
  · exact absurd (hxx o) hx
theorem Keep.block {w w' : World} {X : CS} (hk : Keep w w' X) {g : Nat} {cur : Array Value} {e : TypeId} {fr : Nat × Nat} (h : w.heap[g]? = some (.cells cur e fr)) (hx : ∀ j, ¬ X g j) :
    w'.heap[g]? = some (.cells cur e fr) := by
  have hlt := (Array.getElem?_eq_some_iff.1 h).1
  rcases hk.blk g hlt with h1 | ⟨c1, c2, e1, fr1, h1, h2, hs, hcc⟩ | ⟨es, n, es', n', h1, _⟩ | ⟨_, _, _, _, _, _, _, _, hxx⟩
  · exact h1.trans h
  · rw [h] at h1
    simp only [Option.some.injEq, Obj.cells.injEq] at h1
    obtain ⟨rfl, rfl, rfl⟩ := h1
    rw [h2]
    congr 2
    exact Array.ext_getElem? fun j => hcc j (hx j)
  · rw [h] at h1; cases h1
  · exact absurd (hxx 0) (hx 0)
theorem Keep.map {w w' : World} {X : CS} (hk : Keep w w' X) {g : Nat} {es : Array MapEntry} {n : Nat} (h : w.heap[g]? = some (.map es n)) (hx : ∀ j, ¬ X g j) : w'.heap[g]? = some (.map es n) := by
  have hlt := (Array.getElem?_eq_some_iff.1 h).1
  rcases hk.blk g hlt with h1 | ⟨c1, c2, e1, fr1, h1, h2, hs, hcc⟩ | ⟨es, n, es', n', h1, _, h2⟩ | ⟨_, _, _, _, _, _, _, _, hxx⟩
  · exact h1.trans h
  · rw [h] at h1; cases h1
  · exact absurd h2 (hx 0)
  · exact absurd (hxx 0) (hx 0)
theorem GRel.keep {w w' : World} {X Z Z' : CS} (hk : Keep w w' X) (hd : Disj X Z) (hz : ∀ k j, Z k j → Z' k j) (h : GRel Z w) : GRel Z' w' := by
  intro b g hm
  obtain ⟨h1, h2⟩ := h b g hm
  refine ⟨fun j => hz b j (h1 j), ?_⟩
  cases g with
  | tab k zs => obtain ⟨e, fr, hb⟩ := h2; exact ⟨e, fr, hk.block hb fun j hx => hd b j hx (h1 j)⟩
  | ifc => obtain ⟨t, x, hb⟩ := h2; exact ⟨t, x, hk.cell hb fun hx => hd b 0 hx (h1 0)⟩
  | num k => obtain ⟨m, hb⟩ := h2; exact ⟨m, hk.cell hb fun hx => hd b 0 hx (h1 0)⟩
theorem ElemRd.keep {w w' : World} {X S : CS} (hk : Keep w w' X) (hd : Disj X S) : ∀ {t : Ty} {x : t.T} {b o : Nat}, ElemRd S w t x b o → ElemRd S w' t x b o := by
  intro t
  induction t with
  | int k => exact fun ⟨h, hs⟩ => ⟨hk.cell h fun hx => hd _ _ hx hs, hs⟩
  | bool => exact fun ⟨h, hs⟩ => ⟨hk.cell h fun hx => hd _ _ hx hs, hs⟩
  | str => exact fun ⟨h, hs⟩ => ⟨hk.cell h fun hx => hd _ _ hx hs, hs⟩
  | pair a c iha ihc => exact fun ⟨h1, h2⟩ => ⟨iha h1, ihc h2⟩
  | own t ih =>
    rintro xs b o ⟨av, cap, h, hs, hl, hr⟩
    exact ⟨av, cap, hk.cell h fun hx => hd _ _ hx hs, hs, hl, hr.imp id fun ⟨b', o', ha, hr⟩ => ⟨b', o', ha, fun i x hx => ih (hr i x hx)⟩⟩
theorem ElemRd.mono {w : World} {S S' : CS} (hs : ∀ k j, S k j → S' k j) : ∀ {t : Ty} {x : t.T} {b o : Nat}, ElemRd S w t x b o → ElemRd S' w t x b o := by
  intro t
  induction t with
  | int k => exact fun ⟨h, h'⟩ => ⟨h, hs _ _ h'⟩
  | bool => exact fun ⟨h, h'⟩ => ⟨h, hs _ _ h'⟩
  | str => exact fun ⟨h, h'⟩ => ⟨h, hs _ _ h'⟩
  | pair a c iha ihc => exact fun ⟨h1, h2⟩ => ⟨iha h1, ihc h2⟩
  | own t ih =>
    rintro xs b o ⟨av, cap, h, h', hl, hr⟩
    exact ⟨av, cap, h, hs _ _ h', hl, hr.imp id fun ⟨b', o', ha, hr⟩ => ⟨b', o', ha, fun i x hx => ih (hr i x hx)⟩⟩
theorem SlRd.keep {w w' : World} {X S : CS} (hk : Keep w w' X) (hd : Disj X S) {t : Ty} {xs : List t.T} {v : Value} : SlRd S w t xs v → SlRd S w' t xs v := by
  rintro ⟨av, cap, hv, hl, hr⟩
  exact ⟨av, cap, hv, hl, hr.imp id fun ⟨b', o', ha, hr⟩ => ⟨b', o', ha, fun i x hx => (hr i x hx).keep hk hd⟩⟩
theorem SlRd.mono {w : World} {S S' : CS} (hs : ∀ k j, S k j → S' k j) {t : Ty} {xs : List t.T} {v : Value} : SlRd S w t xs v → SlRd S' w t xs v := by
  rintro ⟨av, cap, hv, hl, hr⟩
  exact ⟨av, cap, hv, hl, hr.imp id fun ⟨b', o', ha, hr⟩ => ⟨b', o', ha, fun i x hx => (hr i x hx).mono hs⟩⟩
theorem Ty.sz_pos (t : Ty) : 0 < t.sz := by
  induction t with
  | pair a b iha ihb => simp only [Ty.sz]; omega
  | _ => simp [Ty.sz]
theorem ElemOwn.keep {w w' : World} {X : CS} (hk : Keep w w' X) : ∀ {t : Ty} {x : t.T} {b o : Nat} {S : CS}, (∀ j, o ≤ j → j < o + t.sz → ¬ X b j) → Disj X S → ElemOwn w t x b o S → ElemOwn w' t x b o S := by
  intro t
  induction t with
  | int k => exact fun hb _ ⟨h, hs⟩ => ⟨hk.cell h (hb _ (Nat.le_refl _) (by simp [Ty.sz])), hs⟩
  | bool => exact fun hb _ ⟨h, hs⟩ => ⟨hk.cell h (hb _ (Nat.le_refl _) (by simp [Ty.sz])), hs⟩
  | str => exact fun hb _ ⟨h, hs⟩ => ⟨hk.cell h (hb _ (Nat.le_refl _) (by simp [Ty.sz])), hs⟩
  | pair a c iha ihc =>
    rintro x b o S hb hd ⟨S1, S2, h1, h2, hdd, hs⟩
    refine ⟨S1, S2, iha (fun j h h' => hb j h ?_) (fun k j h h' => hd k j h ((hs k j).2 (.inl h'))) h1, ihc (fun j h h' => hb j ?_ ?_) (fun k j h h' => hd k j h ((hs k j).2 (.inr h'))) h2, hdd, hs⟩
    · simp only [Ty.sz]; omega
    · omega
    · simp only [Ty.sz]; omega
  | own t ih =>
    rintro xs b o S hb hd ⟨av, cap, h, hr⟩
    refine ⟨av, cap, hk.cell h (hb _ (Nat.le_refl _) (by simp [Ty.sz])), hr.imp id ?_⟩
    rintro ⟨g, cur, e, ha, hg, hsz, hl, Ss, he, hdd, hgg, hs⟩
    refine ⟨g, cur, e, ha, hk.block hg fun j hx => hd g j hx ((hs g j).2 (.inl rfl)), hsz, hl, Ss, fun i x hx => ih (fun j _ _ hX => hd g j hX ((hs g j).2 (.inl rfl))) ?_ (he i x hx), hdd, hgg, hs⟩
    intro k j h1 h2
    exact hd k j h1 ((hs k j).2 (.inr ⟨i, (List.getElem?_eq_some_iff.1 hx).1, h2⟩))
theorem RowOwn.keep {w w' : World} {X : CS} (hk : Keep w w' X) {t : Ty} {xs : List t.T} {p : Pl} (hd : Disj X p.S) : RowOwn w t xs p → RowOwn w' t xs p := by
  rintro ⟨hn, hr⟩
  refine ⟨hn, hr.imp id ?_⟩
  rintro ⟨g, cur, e, ha, hg, hsz, hl, Ss, he, hdd, hgg, hs⟩
  refine ⟨g, cur, e, ha, hk.block hg fun j hx => hd g j hx ((hs g j).2 (.inl rfl)), hsz, hl, Ss, fun i x hx => (he i x hx).keep hk (fun j _ _ hX => hd g j hX ((hs g j).2 (.inl rfl))) ?_, hdd, hgg, hs⟩
  intro k j h1 h2
  exact hd k j h1 ((hs k j).2 (.inr ⟨i, (List.getElem?_eq_some_iff.1 hx).1, h2⟩))
theorem ElemOwn.rd {w : World} : ∀ {t : Ty} {x : t.T} {b o : Nat} {S S' : CS}, (∀ j, o ≤ j → j < o + t.sz → S' b j) → (∀ k j, S k j → S' k j) → ElemOwn w t x b o S → ElemRd S' w t x b o := by
  intro t
  induction t with
  | int k => exact fun hb _ ⟨h, _⟩ => ⟨h, hb _ (Nat.le_refl _) (by simp [Ty.sz])⟩
  | bool => exact fun hb _ ⟨h, _⟩ => ⟨h, hb _ (Nat.le_refl _) (by simp [Ty.sz])⟩
  | str => exact fun hb _ ⟨h, _⟩ => ⟨h, hb _ (Nat.le_refl _) (by simp [Ty.sz])⟩
  | pair a c iha ihc =>
    rintro x b o S S' hb hd ⟨S1, S2, h1, h2, hdd, hs⟩
    refine ⟨iha (fun j h h' => hb j h ?_) (fun k j h => hd k j ((hs k j).2 (.inl h))) h1, ihc (fun j h h' => hb j ?_ ?_) (fun k j h => hd k j ((hs k j).2 (.inr h))) h2⟩
    · simp only [Ty.sz]; omega
    · omega
    · simp only [Ty.sz]; omega
  | own t ih =>
    rintro xs b o S S' hb hd ⟨av, cap, h, hr⟩
    rcases hr with ⟨rfl, rfl, rfl, _⟩ | ⟨g, cur, e, rfl, hg, hsz, hl, Ss, he, hdd, hgg, hs⟩
    · exact ⟨none, 0, h, hb _ (Nat.le_refl _) (by simp [Ty.sz]), Nat.le_refl _, .inl rfl⟩
    · refine ⟨_, cap, h, hb _ (Nat.le_refl _) (by simp [Ty.sz]), hl, .inr ⟨g, 0, rfl, fun i x hx => ?_⟩⟩
      rw [Nat.zero_add]
      exact ih (fun j _ _ => hd g j ((hs g j).2 (.inl rfl))) (fun k j hk => hd k j ((hs k j).2 (.inr ⟨i, (List.getElem?_eq_some_iff.1 hx).1, hk⟩))) (he i x hx)
theorem RowOwn.rd {w : World} {t : Ty} {xs : List t.T} {p : Pl} (h : RowOwn w t xs p) : SlRd p.S w t xs (.slice p.av p.len p.cap) := by
  obtain ⟨hn, hr⟩ := h
  rcases hr with ⟨ha, hc, rfl, _⟩ | ⟨g, cur, e, ha, hg, hsz, hl, Ss, he, hdd, hgg, hs⟩
  · exact ⟨p.av, p.cap, by rw [hn], by simp, .inl rfl⟩
  · refine ⟨p.av, p.cap, by rw [hn], hl.1, .inr ⟨g, 0, ha, fun i x hx => ?_⟩⟩
    rw [Nat.zero_add]
    exact (he i x hx).rd (fun j _ _ => (hs g j).2 (.inl rfl)) fun k j hk => (hs k j).2 (.inr ⟨i, (List.getElem?_eq_some_iff.1 hx).1, hk⟩)
def C.deps : C → List (Option Nat)
  | .ep o _ _ _ _ => [some o]
  | .vp d _ _ _ => [d]
  | .vw d _ _ => [d]
  | _ => []
def depsOf (cs : List C) : List (Option Nat) := cs.flatMap C.deps
def PV.deps : PV → List (Option Nat)
  | .c x => x.deps
  | .agg xs => depsOf xs
def AV.deps : AV → List (Option Nat)
  | .p x => x.deps
  | .tup xs => xs.flatMap PV.deps
structure MLe (M M' : List Pl) (ok : List (Option Nat)) : Prop where
  a : ∀ (o : Nat) (p : Pl), M[o]? = some p → ∃ p', M'[o]? = some p' ∧ p'.av = p.av ∧ p'.len = p.len ∧ p'.cap = p.cap
  s : ∀ o, some o ∈ ok → ∀ k j, zone M (fun _ _ => False) (some o) k j → zone M' (fun _ _ => False) (some o) k j
theorem MLe.refl (M : List Pl) (ok : List (Option Nat)) : MLe M M ok := ⟨fun _ p h => ⟨p, h, rfl, rfl, rfl⟩, fun _ _ _ _ h => h⟩
theorem MLe.append (M N : List Pl) (ok : List (Option Nat)) : MLe M (M ++ N) ok := by
  have hh : ∀ (o : Nat) (p : Pl), M[o]? = some p → (M ++ N)[o]? = some p := fun o p h => by
    rw [List.getElem?_append_left (List.getElem?_eq_some_iff.1 h).1]; exact h
  exact ⟨fun o p h => ⟨p, hh o p h, rfl, rfl, rfl⟩, fun o _ k j ⟨p, h, hs⟩ => ⟨p, hh o p h, hs⟩⟩
theorem zone_mono {M M' : List Pl} {Z Z' : CS} {ok : List (Option Nat)} (hm : MLe M M' ok) (hz : ∀ k j, Z k j → Z' k j) {d : Option Nat} (hd : d ∈ ok) (k j : Nat) : zone M Z d k j → zone M' Z' d k j := by
  cases d with
  | none => exact hz k j
  | some o => exact fun h => hm.s o hd k j h
theorem CapsRel.mono {M M' : List Pl} {ok : List (Option Nat)} (hm : MLe M M' ok) : ∀ {cs : List (Nat × Nat)} {vs : List Value}, CapsRel M cs vs → CapsRel M' cs vs
  | [], _, h => h
  | (o, j) :: cs, vs, ⟨p, b, f, r, hv, hp, ha, hr⟩ => by
    obtain ⟨p', hp', ha', _, _⟩ := hm.a o p hp
    exact ⟨p', b, f, r, hv, hp', ha'.trans ha, CapsRel.mono hm hr⟩
theorem CRel.mono {M M' : List Pl} {Z Z' : CS} {w w' : World} {X : CS} (hk : Keep w w' X) {c : C} (hm : MLe M M' c.deps) (hz : ∀ k j, Z k j → Z' k j)
    (hd : ∀ d, d ∈ c.deps → Disj X (zone M Z d)) {v : Value} (h : CRel M Z w c v) : CRel M' Z' w' c v := by
  cases c with
  | ptr o j =>
    obtain ⟨p, b, f, hp, ha, hv⟩ := h
    obtain ⟨p', hp', ha', _, _⟩ := hm.a o p hp
    exact ⟨p', b, f, hp', ha'.trans ha, hv⟩
  | ep o i t x j =>
    obtain ⟨p, b, hp, ha, hi, he, hv⟩ := h
    obtain ⟨p', hp', ha', hl', _⟩ := hm.a o p hp
    have hdz : Disj X p.S := fun k j h1 h2 => hd (some o) (by simp [C.deps]) k j h1 ⟨p, hp, h2⟩
    refine ⟨p', b, hp', ha'.trans ha, hl' ▸ hi, (he.keep hk hdz).mono fun k j hs => ?_, hv⟩
    obtain ⟨q, hq, hqs⟩ := hm.s o (by simp [C.deps]) k j ⟨p, hp, hs⟩
    rw [hp'] at hq
    cases hq
    exact hqs
  | vp d t x j =>
    obtain ⟨b, f, he, hv⟩ := h
    exact ⟨b, f, (he.keep hk (hd d (by simp [C.deps]))).mono (zone_mono hm hz (by simp [C.deps])), hv⟩
  | sl o =>
    obtain ⟨p, hp, hv⟩ := h
    obtain ⟨p', hp', ha', hl', hc'⟩ := hm.a o p hp
    exact ⟨p', hp', by rw [ha', hl', hc']; exact hv⟩
  | vw d t xs => exact (SlRd.keep hk (hd d (by simp [C.deps])) h).mono (zone_mono hm hz (by simp [C.deps]))
  | fn f caps =>
    obtain ⟨vs, hv, hc⟩ := h
    exact ⟨vs, hv, hc.mono hm⟩
  | mp o =>
    obtain ⟨p, b, hp, ha, hv⟩ := h
    obtain ⟨p', hp', ha', _, _⟩ := hm.a o p hp
    exact ⟨p', b, hp', ha'.trans ha, hv⟩
  | er b => exact h
  | _ => exact h
theorem MLe.sub {M M' : List Pl} {ok ok' : List (Option Nat)} (h : MLe M M' ok) (hs : ∀ d, d ∈ ok' → d ∈ ok) : MLe M M' ok' := ⟨h.a, fun o ho => h.s o (hs _ ho)⟩
theorem CsRel.mono {M M' : List Pl} {Z Z' : CS} {w w' : World} {X : CS} (hk : Keep w w' X) (hz : ∀ k j, Z k j → Z' k j) : ∀ {cs : List C} {vs : List Value}, MLe M M' (depsOf cs) →
    (∀ d, d ∈ depsOf cs → Disj X (zone M Z d)) → CsRel M Z w cs vs → CsRel M' Z' w' cs vs
  | [], _, _, _, h => h
  | c :: cs, vs, hm, hd, ⟨v, r, hv, h1, h2⟩ =>
    ⟨v, r, hv, CRel.mono hk (hm.sub fun d h => by simp [depsOf]; exact .inl h) hz (fun d h => hd d (by simp [depsOf]; exact .inl h)) h1,
      CsRel.mono hk hz (hm.sub fun d h => by simp [depsOf] at h ⊢; exact .inr h) (fun d h => hd d (by simp [depsOf] at h ⊢; exact .inr h)) h2⟩
theorem PRel.mono {M M' : List Pl} {Z Z' : CS} {w w' : World} {X : CS} (hk : Keep w w' X) (hz : ∀ k j, Z k j → Z' k j) {x : PV} {v : Value} (hm : MLe M M' x.deps)
    (hd : ∀ d, d ∈ x.deps → Disj X (zone M Z d)) (h : PRel M Z w x v) : PRel M' Z' w' x v := by
  cases x with
  | c x => exact CRel.mono hk hm hz hd h
  | agg xs =>
    obtain ⟨vs, hv, hr⟩ := h
    exact ⟨vs, hv, hr.mono hk hz hm hd⟩
theorem PsRel.mono {M M' : List Pl} {Z Z' : CS} {w w' : World} {X : CS} (hk : Keep w w' X) (hz : ∀ k j, Z k j → Z' k j) : ∀ {cs : List PV} {vs : List Value}, MLe M M' (cs.flatMap PV.deps) →
    (∀ d, d ∈ cs.flatMap PV.deps → Disj X (zone M Z d)) → PsRel M Z w cs vs → PsRel M' Z' w' cs vs
  | [], _, _, _, h => h
  | c :: cs, vs, hm, hd, ⟨v, r, hv, h1, h2⟩ =>
    ⟨v, r, hv, PRel.mono hk hz (hm.sub fun d h => by simp; exact .inl h) (fun d h => hd d (by simp; exact .inl h)) h1,
      PsRel.mono hk hz (hm.sub fun d h => by simp at h ⊢; exact .inr h) (fun d h => hd d (by simp at h ⊢; exact .inr h)) h2⟩
theorem ARel.mono {M M' : List Pl} {Z Z' : CS} {w w' : World} {X : CS} (hk : Keep w w' X) (hz : ∀ k j, Z k j → Z' k j) {x : AV} {v : Value} (hm : MLe M M' x.deps)
    (hd : ∀ d, d ∈ x.deps → Disj X (zone M Z d)) (h : ARel M Z w x v) : ARel M' Z' w' x v := by
  cases x with
  | p x => exact PRel.mono hk hz hm hd h
  | tup xs =>
    obtain ⟨vs, hv, hr⟩ := h
    exact ⟨vs, hv, hr.mono hk hz hm hd⟩
def Ob.deps : Ob → List (Option Nat)
  | .box cs => depsOf cs
  | _ => []
theorem CsRel.len {M : List Pl} {Z : CS} {w : World} : ∀ {cs : List C} {vs : List Value}, CsRel M Z w cs vs → vs.length = cs.length
  | [], _, h => by simp [CsRel] at h; simp [h]
  | _ :: cs, _, ⟨_, r, hv, _, h⟩ => by subst hv; simp [CsRel.len h]
theorem ObRel.mono {M M' : List Pl} {Z Z' : CS} {w w' : World} {X : CS} (hk : Keep w w' X) (hz : ∀ k j, Z k j → Z' k j) {o : Ob} {p : Pl} (hm : MLe M M' o.deps)
    (hd : ∀ d, d ∈ o.deps → Disj X (zone M Z d)) (hx : Disj X p.S) (h : ObRel M Z w o p) : ObRel M' Z' w' o p := by
  cases o with
  | box cs =>
    obtain ⟨b, f, ha, hs, hf, vs, hc, hv⟩ := h
    have hlen := hc.len
    refine ⟨b, f, ha, hs, fun i hi => ?_, vs, hc.mono hk hz hm hd, fun i v hi => ?_⟩
    · obtain ⟨v, hvv⟩ : ∃ v, vs[i]? = some v := ⟨vs[i]'(by omega), by simp [hlen, hi]⟩
      rw [hk.frozen (cell_lt (hv i v hvv)) fun h => hx b (f + i) h ((hs _ _).2 ⟨rfl, by omega, by omega⟩)]
      exact hf i hi
    · refine hk.cell (hv i v hi) fun h => hx b (f + i) h ((hs _ _).2 ⟨rfl, by omega, ?_⟩)
      have := (List.getElem?_eq_some_iff.1 hi).1
      omega
  | row t xs => exact RowOwn.keep hk hx h
  | mp t es pd =>
    obtain ⟨b, ha, hs, mes, hb, hl, hg⟩ := h
    exact ⟨b, ha, hs, mes, hk.map hb fun j hxx => hx b j hxx ((hs b j).2 rfl), hl, hg⟩
  | dead => exact h
end Go.Proofs.YtmbbapeiikifgaaGreatDoor
