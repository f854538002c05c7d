/- append: the row behind it. -/
import Derived.Test.YtmbbapeiikifgaaGreatDoorSlAp
namespace Go.Proofs.YtmbbapeiikifgaaGreatDoor
open Go
structure Src (w : World) (t : Ty) (ys : List t.T) (x : Value) (T : CS) : Prop where
  v : ∃ av c, x = .slice av ys.length c ∧ (ys = [] ∨ ∃ b f, av = some ⟨b, f, none⟩ ∧
    (∃ news : List Value, news.length = ys.length * t.sz ∧ (∀ j v, news[j]? = some v → w.cell? ⟨b, f + j, none⟩ = some v) ∧ ∀ v, v ∈ news → Value.one v = true) ∧
    ∃ Ts : Nat → CS, (∀ i, i < ys.length → ∀ k j, Ts i k j → T k j) ∧ (∀ i j, i < ys.length → j < ys.length → i ≠ j → Disj (Ts i) (Ts j)) ∧
      ∀ i y, ys[i]? = some y → ∀ (w' : World) (X : CS), Keep w w' X → Disj X T → ∀ b' o', (∀ j v, j < t.sz → w.cell? ⟨b, f + i * t.sz + j, none⟩ = some v → w'.cell? ⟨b', o' + j, none⟩ = some v) → ElemOwn w' t y b' o' (Ts i))
  lt : ∀ k j, T k j → k < w.heap.size
theorem src_row {w : World} {t : Ty} {ys : List t.T} {q : Pl} (h : RowOwn w t ys q) (hlt : ∀ k j, q.S k j → k < w.heap.size) : Src w t ys (.slice q.av q.len q.cap) q.S := by
  obtain ⟨hn, hr⟩ := h
  refine ⟨⟨q.av, q.cap, by rw [hn], ?_⟩, hlt⟩
  rcases hr with ⟨ha, hc, hys, _⟩ | ⟨g, cur, e, ha, hg, hcs, hcap, Ss, hel, hdd, hgg, hS⟩
  · exact .inl hys
  · refine .inr ⟨g, 0, ha, ?_, Ss, fun i hi k j hs => (hS k j).2 (.inr ⟨i, hi, hs⟩), hdd, fun i y hy w' X hk hd b' o' hc => ?_⟩
    · obtain ⟨vs, h1, h2, h3⟩ := rows_vals (w := w) (b := g) (f := 0) (sz := t.sz) ys.length fun i hi => by
        obtain ⟨vs, g1, g2, g3⟩ := ((hel i _ (List.getElem?_eq_getElem hi)).rd (S' := q.S) (fun j _ _ => (hS g j).2 (.inl rfl)) fun k j hk => (hS k j).2 (.inr ⟨i, hi, hk⟩)).vals
        exact ⟨vs, g1, fun j v hj => by rw [Nat.zero_add]; exact g2 j v hj, g3⟩
      exact ⟨vs, h1, h2, h3⟩
    · have hi := (List.getElem?_eq_some_iff.1 hy).1
      refine ElemOwn.move hk (fun j v hj hv => hc j v hj (by rwa [Nat.zero_add])) (fun k j hx hs => hd k j hx ((hS k j).2 (.inr ⟨i, hi, hs⟩))) (hel i y hy)
theorem src_view {w : World} {t : Ty} {ys : List t.T} {x : Value} {Z : CS} (h : SlRd Z w t ys x) (hp : plain t = true) : Src w t ys x noS := by
  obtain ⟨av, cap, hx, hcap, hr⟩ := h
  refine ⟨⟨av, cap, hx, ?_⟩, fun _ _ h => h.elim⟩
  rcases hr with hys | ⟨b, f, ha, hel⟩
  · exact .inl hys
  · refine .inr ⟨b, f, ha, ?_, fun _ => noS, fun _ _ _ _ h => h, fun _ _ _ _ _ _ _ h => h.elim, fun i y hy w' X hk hd b' o' hc => (hel i y hy).copy hp hc⟩
    exact rows_vals (w := w) (b := b) (f := f) (sz := t.sz) ys.length fun i hi => (hel i _ (List.getElem?_eq_getElem hi)).vals
theorem app_nil {P : Program} (w : World) {t ty e : TypeId} {inf : TypeInfo} (ht : P.underlying t = some (.slice e)) (hi : P.info? e = some inf) (av : Option Addr) (n cap : Nat) (hn : n ≤ cap) (av' : Option Addr) (c : Nat) :
    (Builtin.append_ #[t, t] ty #[.slice av n cap, .slice av' 0 c]).run P w = .ok (.slice av n cap) w := by
  cases av <;> cases av' <;> simp [Builtin.append_, run_underlying ht, sizeOf, typeInfo, hi, Builtin.lenOf, hn, Builtin.firstCells, storeCells, loadCells, loadCellsFrom]
theorem app_own {P : Program} {w : World} {t ty e : TypeId} {inf : TypeInfo} {z : Value} (ht : P.underlying t = some (.slice e)) (hi : P.info? e = some inf) (hz : inf.zero = some z) (hzs : z.cells.size = inf.size) (hb : inf.bytes ≤ 128)
    {d : Ty} (hsz : inf.size = d.sz) {xs ys : List d.T} {p : Pl} {x : Value} {T : CS} (hrow : RowOwn w d xs p) (hplt : ∀ k j, p.S k j → k < w.heap.size) (hsrc : Src w d ys x T) (hdis : Disj T p.S) (hlim : xs.length + ys.length ≤ 1099511627776) :
    ∃ w' p', (Builtin.append_ #[t, t] ty #[.slice p.av p.len p.cap, x]).run P w = .ok (.slice p'.av p'.len p'.cap) w' ∧ RowOwn w' d (xs ++ ys) p' ∧ Keep w w' p.S ∧
      (∀ k j, p'.S k j → p.S k j ∨ T k j ∨ fresh w k j) ∧ ∀ k j, p'.S k j → k < w'.heap.size := by
  obtain ⟨⟨av, c, rfl, hs⟩, hTlt⟩ := hsrc
  obtain ⟨hpn, hpr⟩ := hrow
  have hpc : p.len ≤ p.cap := by
    rcases hpr with ⟨_, _, rfl, _⟩ | ⟨_, _, _, _, _, _, h, _⟩
    · simp [hpn]
    · rw [hpn]; exact h.1
  rcases hs with rfl | ⟨b, f, rfl, ⟨news, hl, hnews, h1⟩, Ts, hTs, hTd, hmv⟩
  · exact ⟨w, p, app_nil w ht hi p.av p.len p.cap hpc av c, by rw [List.append_nil]; exact ⟨hpn, hpr⟩, Keep.refl _ _, fun k j h => .inl h, hplt⟩
  · have hol : ∃ olds : List Value, olds.length = p.len * inf.size ∧ ∀ g, p.av = some ⟨g, 0, none⟩ → ∀ j v, olds[j]? = some v → w.cell? ⟨g, j, none⟩ = some v := by
      rcases hpr with ⟨ha, hc, rfl, _⟩ | ⟨g, cur, e', ha, hg, hcs, hcap, Ss, hel, hdd, hgg, hS⟩
      · exact ⟨[], by simp [hpn], fun g h j v hj => by simp at hj⟩
      · obtain ⟨vs, h1, h2, _⟩ := rows_vals (w := w) (b := g) (f := 0) (sz := d.sz) xs.length fun i hi => by
          obtain ⟨vs, g1, g2, g3⟩ := ((hel i _ (List.getElem?_eq_getElem hi)).rd (S' := p.S) (fun j _ _ => (hS g j).2 (.inl rfl)) fun k j hk => (hS k j).2 (.inr ⟨i, hi, hk⟩)).vals
          exact ⟨vs, g1, fun j v hj => by rw [Nat.zero_add]; exact g2 j v hj, g3⟩
        refine ⟨vs, by rw [h1, hpn, hsz], fun g1 hg1 j v hj => ?_⟩
        rw [ha] at hg1; cases hg1
        have := h2 j v hj
        rwa [Nat.zero_add] at this
    obtain ⟨olds, hol, holds⟩ := hol
    obtain ⟨av', cap', w', hrun, hcase⟩ := app_run (P := P) (ty := ty) w ht hi hz hzs hb (av := p.av) (n := p.len) (cap := p.cap) (m := ys.length) (c := c) (by
      rcases hpr with ⟨ha, hc, rfl, _⟩ | ⟨g, cur, e', ha, hg, hcs, hcap, _⟩
      · exact .inl ⟨ha, by simp [hpn], hc⟩
      · exact .inr ⟨g, cur, e', ha, hg, hpc, by rw [hcs, hsz]⟩) hol holds (by rw [hl, hsz]) hnews h1 (by rw [hpn]; exact hlim)
    rcases hcase with ⟨ha, ha', hn, hm, hc', rfl⟩ | ⟨g', cur', e'', ha', hg', ⟨hle, hcp⟩, hcs', hO, hN, hwhere⟩
    · have hx : xs = [] := List.eq_nil_of_length_eq_zero (by omega)
      have hy : ys = [] := List.eq_nil_of_length_eq_zero hm
      refine ⟨w', ⟨none, 0, 0, noS⟩, by rw [hrun, ha', hn, hm, hc'], ⟨by simp [hx, hy], .inl ⟨rfl, rfl, by simp [hx, hy], fun _ _ h => h⟩⟩, Keep.refl _ _, fun _ _ h => h.elim, fun _ _ h => h.elim⟩
    · have hcp' : cap' ≤ 9223372036854775807 := by
        rcases hcp with h | h
        · exact h
        · rcases hpr with ⟨_, hc, _⟩ | ⟨_, _, _, _, _, _, hh, _⟩
          · omega
          · omega
      have hgT : ∀ j, ¬ T g' j := fun j hT => by
        rcases hwhere with ⟨rfl, _⟩ | ⟨hav, _⟩
        · have := hTlt _ _ hT; omega
        · rcases hpr with ⟨ha, _⟩ | ⟨g, cur, e', ha, hg, hcs, hcap, Ss, hel, hdd, hgg, hS⟩
          · rw [ha] at hav; cases hav
          · rw [ha] at hav; cases hav
            exact hdis _ _ hT ((hS _ j).2 (.inl rfl))
      have hkeep : ∃ X : CS, Keep w w' X ∧ (∀ k j, X k j → p.S k j ∧ k = g') := by
        rcases hwhere with ⟨rfl, hk⟩ | ⟨hav, hk⟩
        · exact ⟨_, hk, fun _ _ h => h.elim⟩
        · rcases hpr with ⟨ha, _⟩ | ⟨g, cur, e', ha, hg, hcs, hcap, Ss, hel, hdd, hgg, hS⟩
          · rw [ha] at hav; cases hav
          · rw [ha] at hav; cases hav
            exact ⟨_, hk, fun k j hx => ⟨(hS k j).2 (.inl hx.1), hx.1⟩⟩
      obtain ⟨X, hk, hX⟩ := hkeep
      have hg'lt := (Array.getElem?_eq_some_iff.1 hg').1
      have hxs : ∃ Ss : Nat → CS, (∀ i x, xs[i]? = some x → ElemOwn w' d x g' (i * d.sz) (Ss i)) ∧ (∀ i j, i < xs.length → j < xs.length → i ≠ j → Disj (Ss i) (Ss j)) ∧ (∀ i, i < xs.length → ∀ j, ¬ Ss i g' j) ∧ (∀ i, i < xs.length → ∀ k j, Ss i k j → p.S k j) := by
        rcases hpr with ⟨ha, hc, rfl, _⟩ | ⟨g, cur, e', ha, hg, hcs, hcap, Ss, hel, hdd, hgg, hS⟩
        · exact ⟨fun _ => noS, fun i x hx => by simp at hx, fun _ _ _ _ _ _ _ h => h.elim, fun _ _ _ h => h, fun _ _ _ _ h => h.elim⟩
        · have hSsub : ∀ i, i < xs.length → ∀ k j, Ss i k j → p.S k j := fun i hi k j hs => (hS k j).2 (.inr ⟨i, hi, hs⟩)
          have hgn : ∀ i, i < xs.length → ∀ j, ¬ Ss i g' j := fun i hi j hs => by
            rcases hwhere with ⟨rfl, _⟩ | ⟨hav, _⟩
            · have := hplt _ _ (hSsub i hi _ _ hs); omega
            · rw [ha] at hav; cases hav; exact hgg i hi j hs
          refine ⟨Ss, fun i x hx => ?_, hdd, hgn, hSsub⟩
          have hi := (List.getElem?_eq_some_iff.1 hx).1
          refine ElemOwn.move hk (fun j v hj hv => ?_) (fun k j hx hs => ?_) (hel i x hx)
          · have hlt : i * d.sz + j < olds.length := by
              rw [hol, hpn, hsz]
              have := Nat.mul_le_mul_right d.sz (Nat.succ_le_of_lt hi)
              rw [Nat.succ_mul] at this
              omega
            have h2 := holds g ha _ _ (List.getElem?_eq_getElem hlt)
            rw [hv] at h2
            refine hO _ v ?_
            rw [List.getElem?_eq_getElem hlt]; exact h2.symm
          · have := (hX k j hx).2
            subst this
            exact hgn i hi j hs
      obtain ⟨Ss, hSe, hSd, hSg, hSsub⟩ := hxs
      have hNe : ∀ i y, ys[i]? = some y → ElemOwn w' d y g' ((p.len + i) * d.sz) (Ts i) := fun i y hy => by
        have hi := (List.getElem?_eq_some_iff.1 hy).1
        refine hmv i y hy w' X hk (fun k j hx hT => hdis k j hT (hX k j hx).1) g' _ fun j v hj hv => ?_
        have hlt : i * d.sz + j < news.length := by
          rw [hl]
          have := Nat.mul_le_mul_right d.sz (Nat.succ_le_of_lt hi)
          rw [Nat.succ_mul] at this
          omega
        have h2 := hnews _ _ (List.getElem?_eq_getElem hlt)
        rw [show f + (i * d.sz + j) = f + i * d.sz + j from by omega, hv] at h2
        have h3 := hN (i * d.sz + j) v (by rw [List.getElem?_eq_getElem hlt]; exact h2.symm)
        rwa [show p.len * inf.size + (i * d.sz + j) = (p.len + i) * d.sz + j from by rw [hsz, Nat.add_mul]; omega] at h3
      refine ⟨w', ⟨some ⟨g', 0, none⟩, p.len + ys.length, cap', fun k j => k = g' ∨ (∃ i, i < xs.length ∧ Ss i k j) ∨ ∃ i, i < ys.length ∧ Ts i k j⟩, by rw [hrun, ha'], ⟨by simp [hpn], .inr ⟨g', cur', e'', rfl, hg', by rw [hcs', hsz], ⟨by simp only [List.length_append]; omega, hcp'⟩,
        fun i => if i < xs.length then Ss i else Ts (i - xs.length), fun i y hy => ?_, fun i j hi hj hne => ?_, fun i hi j hs => ?_, fun k j => ?_⟩⟩, hk.mono fun k j hx => (hX k j hx).1, fun k j hs => ?_, fun k j hs => ?_⟩
      · rw [List.getElem?_append] at hy
        split at hy
        · rename_i hi; dsimp only; rw [if_pos hi]; exact hSe i y hy
        · rename_i hi
          dsimp only
          rw [if_neg hi]
          have := hNe _ y hy
          rwa [show p.len + (i - xs.length) = i from by omega] at this
      · simp only [List.length_append] at hi hj
        dsimp only
        split <;> split
        · rename_i h1 h2; exact hSd i j h1 h2 hne
        · rename_i h1 h2; exact fun k l a1 a2 => hdis k l (hTs _ (by omega) k l a2) (hSsub i h1 k l a1)
        · rename_i h1 h2; exact fun k l a1 a2 => hdis k l (hTs _ (by omega) k l a1) (hSsub j h2 k l a2)
        · rename_i h1 h2; exact hTd _ _ (by omega) (by omega) (by omega)
      · simp only [List.length_append] at hi
        dsimp only at hs
        split at hs
        · rename_i h1; exact hSg i h1 j hs
        · exact hgT j (hTs _ (by omega) _ _ hs)
      · dsimp only
        simp only [List.length_append]
        constructor
        · rintro (h | ⟨i, hi, h⟩ | ⟨i, hi, h⟩)
          · exact .inl h
          · exact .inr ⟨i, by omega, by rw [if_pos hi]; exact h⟩
          · exact .inr ⟨xs.length + i, by omega, by rw [if_neg (by omega), show xs.length + i - xs.length = i from by omega]; exact h⟩
        · rintro (h | ⟨i, hi, h⟩)
          · exact .inl h
          · split at h
            · rename_i h1; exact .inr (.inl ⟨i, h1, h⟩)
            · exact .inr (.inr ⟨i - xs.length, by omega, h⟩)
      · dsimp only at hs
        rcases hs with rfl | ⟨i, hi, h⟩ | ⟨i, hi, h⟩
        · rcases hwhere with ⟨rfl, _⟩ | ⟨hav, _⟩
          · exact .inr (.inr (Nat.le_refl _))
          · rcases hpr with ⟨ha, _⟩ | ⟨g, cur, e', ha, hg, hcs, hcap, Ss, hel, hdd, hgg, hS⟩
            · rw [ha] at hav; cases hav
            · rw [ha] at hav; cases hav
              exact .inl ((hS k j).2 (.inl rfl))
        · exact .inl (hSsub i hi k j h)
        · exact .inr (.inl (hTs i hi k j h))
      · dsimp only at hs
        rcases hs with rfl | ⟨i, hi, h⟩ | ⟨i, hi, h⟩
        · exact hg'lt
        · exact Nat.lt_of_lt_of_le (hplt k j (hSsub i hi k j h)) hk.size
        · exact Nat.lt_of_lt_of_le (hTlt k j (hTs i hi k j h)) hk.size
end Go.Proofs.YtmbbapeiikifgaaGreatDoor
