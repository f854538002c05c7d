/- A call: the state behind it. -/
import Derived.Test.YtmbbapeiikifgaaGreatDoorSlP
namespace Go.Proofs.YtmbbapeiikifgaaGreatDoor
open Go
section
variable {E : Env} {st : St} {M : List Pl} {Z : CS} {a : Act} {w w' : World} {brw : Bool} {sel : List Sel} {Hc : List Ob}
theorem sel_inj (hd : (sel.map Sel.o).Nodup) {i j : Nat} {s t : Sel} (hi : sel[i]? = some s) (hj : sel[j]? = some t) (h : s.o = t.o) : i = j := by
  have h1 : (sel.map Sel.o)[i]? = some s.o := by simp [hi]
  have h2 : (sel.map Sel.o)[j]? = some t.o := by simp [hj]
  obtain ⟨hi', e1⟩ := List.getElem?_eq_some_iff.1 h1
  obtain ⟨hj', e2⟩ := List.getElem?_eq_some_iff.1 h2
  rcases Nat.lt_trichotomy i j with hl | hl | hl
  · exact absurd (e1.trans (h.trans e2.symm)) (List.pairwise_iff_getElem.1 hd i j hi' hj' hl)
  · exact hl
  · exact absurd ((e1.trans (h.trans e2.symm)).symm) (List.pairwise_iff_getElem.1 hd j i hj' hi' hl)
theorem touched_of {i : Nat} {s : Sel} (h : sel[i]? = some s) : touched sel s.o = true := by
  simp only [touched, List.any_eq_true]
  exact ⟨s, List.mem_of_getElem? h, by simp⟩
theorem sel_pl (h : Rel E st M Z a w) (hH : toH brw sel st.H sel = some Hc) {i : Nat} {s : Sel} (hs : sel[i]? = some s) :
    ∃ p, M[s.o]? = some p ∧ (∀ k j, (selPl M s).S k j → p.S k j) ∧
      ((∃ o, s = .whole o ∧ selPl M s = p) ∨ ∃ o j n b f cs, s = .win o j n ∧ st.H[o]? = some (.box cs) ∧ j + n ≤ cs.length ∧ p.av = some ⟨b, f, none⟩ ∧
        selPl M s = ⟨some ⟨b, f + j, none⟩, 0, 0, fun k x => k = b ∧ f + j ≤ x ∧ x < f + j + n⟩ ∧ ∀ k x, p.S k x ↔ k = b ∧ f ≤ x ∧ x < f + cs.length) := by
  obtain ⟨ob', _, hh⟩ := (toH_get hH).2 i s hs
  have hM : ∀ {o : Nat} {ob : Ob}, st.H[o]? = some ob → ∃ p, M[o]? = some p := fun {o ob} ho => by
    have := (List.getElem?_eq_some_iff.1 ho).1
    exact ⟨M[o]'(by rw [h.ml]; exact this), by simp [h.ml, this]⟩
  rcases hh with ⟨o, cs, cs', rfl, hHo, _, _⟩ | ⟨o, rfl, hHo, _⟩ | ⟨o, j, n, cs, cs', rfl, hHo, hn, _, _⟩
  · obtain ⟨p, hp⟩ := hM hHo
    have e : selPl M (.whole o) = p := by simp [selPl, hp]
    exact ⟨p, hp, fun k j hs => by rwa [e] at hs, .inl ⟨o, rfl, e⟩⟩
  · obtain ⟨p, hp⟩ := hM hHo
    have e : selPl M (.whole o) = p := by simp [selPl, hp]
    exact ⟨p, hp, fun k j hs => by rwa [e] at hs, .inl ⟨o, rfl, e⟩⟩
  · obtain ⟨p, hp⟩ := hM hHo
    obtain ⟨b, f, ha, hS, _⟩ := h.ob o _ p hHo hp
    have e : selPl M (.win o j n) = ⟨some ⟨b, f + j, none⟩, 0, 0, fun k x => k = b ∧ f + j ≤ x ∧ x < f + j + n⟩ := by simp [selPl, hp, ha]
    refine ⟨p, hp, fun k x hs => ?_, .inr ⟨o, j, n, b, f, cs, rfl, hHo, hn, ha, e, hS⟩⟩
    rw [e] at hs
    obtain ⟨h1, h2, h3⟩ := hs
    exact (hS k x).2 ⟨h1, by omega, by omega⟩
theorem selM_inv {i : Nat} {p : Pl} (h : (selM M sel)[i]? = some p) : ∃ s, sel[i]? = some s ∧ p = selPl M s := by
  simp only [selM, List.getElem?_map, Option.map_eq_some_iff] at h
  obtain ⟨s, hs, rfl⟩ := h
  exact ⟨s, hs, rfl⟩
theorem Rel.lend (h : Rel E st M Z a w) (hd : (sel.map Sel.o).Nodup) (hH : toH brw sel st.H sel = some Hc) : HRel Hc (selM M sel) (selZ brw M Z sel) w := by
  obtain ⟨hlen, hget⟩ := toH_get hH
  refine ⟨by simp [selM, hlen], fun i ob p ho hp => ?_, fun i j p q hp hq hne k x h1 h2 => ?_, fun i p hp k x h1 h2 => ?_, fun i p k x hp h1 => ?_, fun k x hz => ?_, h.gl.keep (Keep.refl _ (fun _ _ => False)) (fun _ _ h => h.elim) fun _ _ hz => .inl hz⟩
  · obtain ⟨s, hs, rfl⟩ := selM_inv hp
    obtain ⟨p, hpm, _, hcase⟩ := sel_pl h hH hs
    obtain ⟨ob', ho', hh⟩ := hget i s hs
    rw [ho] at ho'; cases ho'
    rcases hh with ⟨o, cs, cs', rfl, hHo, hcs, rfl⟩ | ⟨o, rfl, hHo, hne⟩ | ⟨o, j, n, cs, cs', rfl, hHo, hn, hcs, rfl⟩
    · have e : selPl M (.whole o) = p := by simp only [Sel.o] at hpm; simp [selPl, hpm]
      rw [e]
      obtain ⟨b, f, ha, hS, hf, vs, hv, hcell⟩ := h.ob o _ p hHo hpm
      have hl := toCs_len hcs
      exact ⟨b, f, ha, fun k j => by rw [hS k j, hl], fun i hi => hf i (hl ▸ hi), vs, toCs_rel h.hrel hcs hv, hcell⟩
    · have e : selPl M (.whole o) = p := by simp only [Sel.o] at hpm; simp [selPl, hpm]
      rw [e]
      have := h.ob o _ p hHo hpm
      cases ob with
      | box cs => exact absurd rfl (hne cs)
      | row t xs => exact this
      | mp t es pd => exact this
      | dead => exact this
    · rcases hcase with ⟨o', h1, _⟩ | ⟨o', j', n', b, f, cs1, h1, hHo', hn', ha, e, hS⟩
      · cases h1
      · cases h1
        rw [hHo] at hHo'; cases hHo'
        rw [e]
        obtain ⟨b', f', ha', hS', hf, vs, hv, hcell⟩ := h.ob o _ p hHo hpm
        rw [ha] at ha'; cases ha'
        have hl := toCs_len hcs
        have hl2 : cs'.length = n := by rw [hl]; simp; omega
        refine ⟨b, f + j, rfl, fun k x => by rw [hl2], fun i hi => ?_, (vs.drop j).take n, toCs_rel h.hrel hcs ((hv.drop j).take n), fun i v hi => ?_⟩
        · have := hf (j + i) (by omega)
          rwa [← Nat.add_assoc] at this
        · have hlt : i < n := by have := (List.getElem?_eq_some_iff.1 hi).1; simp at this; omega
          rw [List.getElem?_take_of_lt hlt, List.getElem?_drop] at hi
          have := hcell (j + i) v hi
          rwa [← Nat.add_assoc] at this
  · obtain ⟨s, hs, rfl⟩ := selM_inv hp
    obtain ⟨t, ht, rfl⟩ := selM_inv hq
    obtain ⟨p, hpm, hps, _⟩ := sel_pl h hH hs
    obtain ⟨q, hqm, hqs, _⟩ := sel_pl h hH ht
    exact h.dj s.o t.o p q hpm hqm (fun e => hne (sel_inj hd hs ht e)) k x (hps k x h1) (hqs k x h2)
  · obtain ⟨s, hs, rfl⟩ := selM_inv hp
    obtain ⟨p, hpm, hps, _⟩ := sel_pl h hH hs
    rcases h2 with h2 | ⟨_, o, q, ho, hq, hqs⟩
    · exact h.dz s.o p hpm k x (hps k x h1) h2
    · refine h.dj s.o o p q hpm hq ?_ k x (hps k x h1) hqs
      rintro rfl
      rw [touched_of hs] at ho; cases ho
  · obtain ⟨s, hs, rfl⟩ := selM_inv hp
    obtain ⟨p, hpm, hps, _⟩ := sel_pl h hH hs
    exact h.lt s.o p k x hpm (hps k x h1)
  · rcases hz with hz | ⟨_, o, q, _, hq, hqs⟩
    · exact h.zl k x hz
    · exact h.lt o q k x hq hqs
theorem selWhole_none {o : Nat} : ∀ {sel : List Sel} {i0 : Nat}, (∀ s, s ∈ sel → s ≠ .whole o) → selWhole sel i0 o = none
  | [], _, _ => rfl
  | .whole o' :: r, i0, h => by
    simp only [selWhole]
    rw [if_neg (fun e => h _ (List.mem_cons_self) (by rw [e]))]
    exact selWhole_none fun s hs => h s (List.mem_cons_of_mem _ hs)
  | .win _ _ _ :: r, i0, h => by
    simp only [selWhole]
    exact selWhole_none fun s hs => h s (List.mem_cons_of_mem _ hs)
theorem selWhole_some (hd : (sel.map Sel.o).Nodup) {i o : Nat} (h : sel[i]? = some (.whole o)) : selWhole sel 0 o = some i := by
  cases hw : selWhole sel 0 o with
  | some i' =>
    obtain ⟨hs, _⟩ := selWhole_spec hw
    rw [Nat.sub_zero] at hs
    rw [sel_inj hd hs h rfl]
  | none =>
    exfalso
    have : ∀ {sel : List Sel} {i i0 : Nat}, sel[i]? = some (.whole o) → selWhole sel i0 o ≠ none := by
      intro sel
      induction sel with
      | nil => intro i i0 h; simp at h
      | cons s r ih =>
        intro i i0 h
        cases i with
        | zero => simp at h; subst h; simp [selWhole]
        | succ i =>
          have h' : r[i]? = some (.whole o) := by simpa using h
          cases s with
          | whole o' =>
            simp only [selWhole]
            split
            · simp
            · exact ih h'
          | win => simp only [selWhole]; exact ih h'
    exact this h hw
def bM (M : List Pl) (sel : List Sel) (M' : List Pl) : List Pl :=
  (List.range M.length).map (fun o => match selWhole sel 0 o with | some i => (M'[i]?).getD nilPl | none => (M[o]?).getD nilPl) ++ M'.drop sel.length
def bZ (brw : Bool) (M : List Pl) (Z : CS) (sel : List Sel) (Z' : CS) : CS := fun k j => Z k j ∨ (Z' k j ∧ ¬ lent brw M sel k j)
theorem bM_len {M' : List Pl} : (bM M sel M').length = M.length + (M'.length - sel.length) := by simp [bM]
theorem bM_old {M' : List Pl} {o : Nat} (ho : o < M.length) : (bM M sel M')[o]? = match selWhole sel 0 o with | some i => some ((M'[i]?).getD nilPl) | none => M[o]? := by
  unfold bM
  rw [List.getElem?_append_left (by simpa using ho)]
  simp only [List.getElem?_map, List.getElem?_range ho, Option.map_some]
  split
  · rfl
  · simp [ho]
theorem bM_new {M' : List Pl} (j : Nat) : (bM M sel M')[M.length + j]? = M'[sel.length + j]? := by
  unfold bM
  rw [List.getElem?_append_right (by simp)]
  simp
end
end Go.Proofs.YtmbbapeiikifgaaGreatDoor
