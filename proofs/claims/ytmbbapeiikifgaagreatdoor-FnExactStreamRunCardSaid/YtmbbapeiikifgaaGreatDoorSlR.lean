/- A call: the state behind it, in full. -/
import Derived.Test.YtmbbapeiikifgaaGreatDoorSlQ
namespace Go.Proofs.YtmbbapeiikifgaaGreatDoor
open Go
section
variable {E : Env} {st : St} {M : List Pl} {Z : CS} {a : Act} {w w' : World} {brw : Bool} {sel : List Sel} {Hc Hc' H'' : List Ob} {r : AV} {v : Value} {M' : List Pl} {Z' : CS}
theorem bix_of_bixW {base i o : Nat} (h : bixW sel base i = some o) : bix sel base i = some (o, 0) := by
  unfold bixW at h
  unfold bix
  split at h <;> cases h <;> simp_all
structure Bk (E : Env) (st : St) (M : List Pl) (Z : CS) (w : World) (brw : Bool) (sel : List Sel) (M' : List Pl) (Z' : CS) : Prop where
  len : sel.length ≤ M'.length
  m1 : ∀ o, o < M.length → (∀ s, s ∈ sel → s.o ≠ o) → (bM M sel M')[o]? = M[o]?
  m2 : ∀ i o, bixW sel M.length i = some o → (i < sel.length → o < M.length) ∧ ∀ p, M'[i]? = some p → (bM M sel M')[o]? = some p
  m3 : ∀ (i o j n : Nat), sel[i]? = some (.win o j n) → (bM M sel M')[o]? = M[o]?
  cls : ∀ (i : Nat) (p : Pl), (i ∈ sel.map Sel.o ∨ M.length ≤ i) → (bM M sel M')[i]? = some p → (∃ i0, bixW sel M.length i0 = some i ∧ M'[i0]? = some p) ∨ ∃ i0 j n : Nat, sel[i0]? = some (Sel.win i j n) ∧ M[i]? = some p
theorem bk (h : Rel E st M Z a w) (hd : (sel.map Sel.o).Nodup) (hH : toH brw sel st.H sel = some Hc) (hfin : Fin (selM M sel) (selZ brw M Z sel) w r Hc' v M' Z' w') : Bk E st M Z w brw sel M' Z' := by
  have hlen : sel.length ≤ M'.length := by
    rcases Nat.eq_zero_or_pos sel.length with h0 | h0
    · omega
    · obtain ⟨p, hp⟩ : ∃ p, (selM M sel)[sel.length - 1]? = some p := by
        have hl : sel.length - 1 < (selM M sel).length := by simp only [selM, List.length_map]; omega
        exact ⟨_, List.getElem?_eq_getElem hl⟩
      obtain ⟨p', hp', _⟩ := hfin.pl _ p hp
      have := (List.getElem?_eq_some_iff.1 hp').1
      omega
  have hlt : ∀ {i : Nat} {s : Sel}, sel[i]? = some s → s.o < M.length := fun {i s} hs => by
    obtain ⟨p, hp, _⟩ := sel_pl h hH hs
    exact (List.getElem?_eq_some_iff.1 hp).1
  have hget : ∀ i, i < sel.length → ∃ p, M'[i]? = some p := fun i hi => ⟨M'[i]'(by omega), List.getElem?_eq_getElem _⟩
  have m3 : ∀ (i o j n : Nat), sel[i]? = some (.win o j n) → (bM M sel M')[o]? = M[o]? := fun i o j n hs => by
    have hl : o < M.length := hlt hs
    rw [bM_old hl, selWhole_none]
    rintro s hs' rfl
    obtain ⟨i', hi', e⟩ := List.getElem_of_mem hs'
    have h2 : sel[i']? = some (.whole o) := by rw [List.getElem?_eq_getElem hi', e]
    have := sel_inj hd hs h2 rfl
    subst this
    rw [hs] at h2; cases h2
  have m2 : ∀ i o, bixW sel M.length i = some o → (i < sel.length → o < M.length) ∧ ∀ p, M'[i]? = some p → (bM M sel M')[o]? = some p := fun i o hb => by
    unfold bixW at hb
    split at hb
    · rename_i o' hs
      cases hb
      refine ⟨fun _ => hlt hs, fun p hp => ?_⟩
      have hl : o < M.length := hlt hs
      rw [bM_old hl, selWhole_some hd hs]
      simp [hp]
    · cases hb
    · rename_i hs
      cases hb
      have hge : sel.length ≤ i := by simpa using hs
      refine ⟨fun hi => absurd hi (by omega), fun p hp => ?_⟩
      rw [bM_new]
      rwa [show sel.length + (i - sel.length) = i from by omega]
  refine ⟨hlen, fun o ho hs => ?_, m2, m3, fun i p hi hp => ?_⟩
  · rw [bM_old ho, selWhole_none]
    rintro s hs' rfl
    exact hs _ hs' rfl
  · rcases Nat.lt_or_ge i M.length with hl | hl
    · rcases hi with hi | hi
      · obtain ⟨s, hs', rfl⟩ := List.mem_map.1 hi
        obtain ⟨i0, hi0, e⟩ := List.getElem_of_mem hs'
        have h2 : sel[i0]? = some s := by rw [List.getElem?_eq_getElem hi0, e]
        cases s with
        | whole o =>
          have hb : bixW sel M.length i0 = some o := by simp [bixW, h2]
          obtain ⟨q, hq⟩ := hget i0 hi0
          have := (m2 i0 o hb).2 q hq
          rw [show (Sel.whole o).o = o from rfl, this] at hp
          cases hp
          exact .inl ⟨i0, hb, hq⟩
        | win o j n =>
          rw [show (Sel.win o j n).o = o from rfl, m3 i0 o j n h2] at hp
          exact .inr ⟨i0, j, n, h2, hp⟩
      · omega
    · have : i = M.length + (i - M.length) := by omega
      rw [this, bM_new] at hp
      refine .inl ⟨sel.length + (i - M.length), ?_, hp⟩
      unfold bixW
      rw [List.getElem?_eq_none (by omega)]
      simp; omega
theorem Rel.back (h : Rel E st M Z a w) (hd : (sel.map Sel.o).Nodup) (hfree : ∀ s, s ∈ sel → st.free s.o = true) (hH : toH brw sel st.H sel = some Hc) (hfin : Fin (selM M sel) (selZ brw M Z sel) w r Hc' v M' Z' w')
    (hwb : wb brw sel st.H.length sel Hc' st.H = some H'') {r'' : AV} (hr : bcA brw sel st.H.length r = some r'') :
    Rel E ⟨st.T, H''⟩ (bM M sel M') (bZ brw M Z sel Z') a w' ∧ ARel (bM M sel M') (bZ brw M Z sel Z') w' r'' v := by
  have B := bk h hd hH hfin
  have W := wb_ok hd hwb
  rw [← h.ml] at hwb hr W
  have hlt : ∀ {i : Nat} {s : Sel}, sel[i]? = some s → s.o < M.length := fun {i s} hs => by
    obtain ⟨p, hp, _⟩ := sel_pl h hH hs
    exact (List.getElem?_eq_some_iff.1 hp).1
  have hback : BackOk sel M.length brw M' (bM M sel M') Z' (bZ brw M Z sel Z') := by
    refine ⟨fun i o j0 p b f hb hp ha => ?_, fun i o p hb hp => (B.m2 i o hb).2 p hp, fun hb k j hz => .inr ⟨hz, fun hl => by rw [hb] at hl; cases hl.1⟩⟩
    cases hW : bixW sel M.length i with
    | some o' =>
      have := bix_of_bixW hW
      rw [hb] at this; cases this
      exact ⟨p, f, (B.m2 i o hW).2 p hp, ha, rfl⟩
    | none =>
      unfold bixW at hW
      unfold bix at hb
      split at hW
      · cases hW
      · rename_i o' j' n hs
        rw [hs] at hb; cases hb
        obtain ⟨p0, hp0, _, hc⟩ := sel_pl h hH hs
        rcases hc with ⟨o1, e1, _⟩ | ⟨o1, j1, n1, b1, f1, cs, e1, _, _, ha1, e2, _⟩
        · cases e1
        · cases e1
          obtain ⟨p', hp', hav, _⟩ := hfin.pl i _ (selM_get (M := M) hs)
          rw [hp] at hp'; cases hp'
          rw [ha, e2] at hav
          simp only [Option.some.injEq, Addr.mk.injEq] at hav
          obtain ⟨rfl, rfl, _⟩ := hav
          exact ⟨p0, f1, (B.m3 i o j0 n hs).trans hp0, ha1, rfl⟩
      · cases hW
  have hselS : ∀ k j, allS (selM M sel) k j → ∃ (i : Nat) (s : Sel) (p : Pl), sel[i]? = some s ∧ M[s.o]? = some p ∧ (selPl M s).S k j ∧ p.S k j := by
    rintro k j ⟨i, p, hp, hs⟩
    obtain ⟨s, hs', rfl⟩ := selM_inv hp
    obtain ⟨q, hq, hqs, _⟩ := sel_pl h hH hs'
    exact ⟨i, s, q, hs', hq, hs, hqs k j hs⟩
  have hmemI : ∀ {i : Nat} {s : Sel}, sel[i]? = some s → s.o ∈ sel.map Sel.o := fun hs => List.mem_map.2 ⟨_, List.mem_of_getElem? hs, rfl⟩
  have hZZ : ∀ k j, bZ brw M Z sel Z' k j → Z' k j := fun k j hz => hz.elim (fun h => hfin.z1 k j (.inl h)) (·.1)
  have hwin : ∀ (i o j n : Nat), sel[i]? = some (.win o j n) → ∃ p', M'[i]? = some p' ∧ ∀ k x, p'.S k x ↔ (selPl M (.win o j n)).S k x := by
    intro i o j n hs
    obtain ⟨p', hp', hav, _⟩ := hfin.pl i _ (selM_get (M := M) hs)
    obtain ⟨p0, hp0, _, hc⟩ := sel_pl h hH hs
    rcases hc with ⟨o1, e1, _⟩ | ⟨o1, j1, n1, b1, f1, cs, e1, hHo, _, ha1, e2, _⟩
    · cases e1
    · cases e1
      have hltH : o < st.H.length := (List.getElem?_eq_some_iff.1 hHo).1
      have hlt2 : o < H''.length := by rw [W.len]; omega
      obtain ⟨x, hx, hh⟩ := W.sel i _ hs _ (List.getElem?_eq_getElem hlt2) hltH
      rcases hh with ⟨o2, e3, _⟩ | ⟨o2, j2, n2, ds, ds', cs2, e3, rfl, _, _, hn, _, _⟩
      · cases e3
      · cases e3
        obtain ⟨b, f, ha, hS, _⟩ := hfin.h.ob i _ p' hx hp'
        rw [ha, e2] at hav
        simp only [Option.some.injEq, Addr.mk.injEq] at hav
        obtain ⟨rfl, rfl, _⟩ := hav
        exact ⟨p', hp', fun k x => by rw [hS k x, e2, hn]⟩
  have hX : ∀ k j, allS (selM M sel) k j → ∃ i p, i ∈ sel.map Sel.o ∧ M[i]? = some p ∧ p.S k j := fun k j hs => by
    obtain ⟨i, s, p, hs', hp, _, hps⟩ := hselS k j hs
    exact ⟨s.o, p, hmemI hs', hp, hps⟩
  have hZ2 : ∀ k j, bZ brw M Z sel Z' k j → Z k j ∨ (∃ i0 p, i0 ∈ sel.map Sel.o ∧ M[i0]? = some p ∧ p.S k j) ∨ (w.heap.size ≤ k ∧ k < w'.heap.size) := by
    rintro k j (hz | ⟨hz, hl⟩)
    · exact .inl hz
    · rcases hfin.z2 k j hz with (hz | hz) | hs | hf
      · exact .inl hz
      · exact absurd hz hl
      · exact .inr (.inl (hX k j hs))
      · exact .inr (.inr ⟨hf, hfin.h.zl k j hz⟩)
  refine ⟨?_, bcA_rel hback hr hfin.rel⟩
  refine h.touch hfin.kp (sel.map Sel.o) (fun i hi => ?_) hX ?_ (fun i hi hni => ?_) (fun i p hi hp => ?_) (fun i p' k j hp hi hs => ?_) (fun i j p q hp hq hi hj hne k x h1 h2 => ?_) (fun k j hz => .inl hz) hZ2 (fun i p hp hi k x h1 h2 => ?_) ?_
  · obtain ⟨s, hs, rfl⟩ := List.mem_map.1 hi
    exact hfree s hs
  · rw [bM_len, W.len, hfin.h.ml, h.ml]
  · have hns : ∀ s, s ∈ sel → s.o ≠ i := fun s hs e => hni (List.mem_map.2 ⟨s, hs, e⟩)
    exact ⟨B.m1 i hi hns, W.same i (h.ml ▸ hi) hns⟩
  · obtain ⟨s, hs, rfl⟩ := List.mem_map.1 hi
    obtain ⟨i0, hi0, e⟩ := List.getElem_of_mem hs
    have hs' : sel[i0]? = some s := by rw [List.getElem?_eq_getElem hi0, e]
    cases s with
    | whole o =>
      have hb : bixW sel M.length i0 = some o := by simp [bixW, hs']
      obtain ⟨p', hp', hpl⟩ := hfin.pl i0 _ (selM_get (M := M) hs')
      have e2 : selPl M (.whole o) = p := by simp only [Sel.o] at hp; simp [selPl, hp]
      rw [e2] at hpl
      exact ⟨p', (B.m2 i0 o hb).2 p' hp', hpl⟩
    | win o j n => exact ⟨p, (B.m3 i0 o j n hs').trans hp, rfl, rfl, rfl⟩
  · rcases B.cls i p' hi hp with ⟨i0, hb, hp0⟩ | ⟨i0, j0, n0, hs', hp0⟩
    · rcases hfin.s i0 p' k j hp0 hs with h1 | h1
      · exact .inr (hX k j h1)
      · exact .inl ⟨h1, hfin.h.lt i0 p' k j hp0 hs⟩
    · exact .inr ⟨i, p', hmemI hs', hp0, hs⟩
  · have hAB : ∀ {i0 i1 i j0 n0 : Nat} {p q : Pl}, bixW sel M.length i0 = some i1 → M'[i0]? = some p → ∀ {i2 : Nat}, sel[i2]? = some (.win i j0 n0) → M[i]? = some q → p.S k x → q.S k x → False := by
      intro i0 i1 i j0 n0 p q hb hp0 i2 hs' hq0 h1 h2
      rcases hfin.s i0 p k x hp0 h1 with h3 | h3
      · obtain ⟨i3, s3, p3, hs3, hp3, hsel3, hps3⟩ := hselS k x h3
        by_cases e : s3.o = i
        · have := sel_inj hd hs3 hs' e
          subst this
          rw [hs'] at hs3; cases hs3
          obtain ⟨p', hp', hS'⟩ := hwin _ _ _ _ hs'
          refine hfin.h.dj i0 i3 p p' hp0 hp' ?_ k x h1 ((hS' k x).2 hsel3)
          rintro rfl
          simp [bixW, hs'] at hb
        · exact h.dj s3.o i p3 q hp3 hq0 e k x hps3 h2
      · have := h.lt i q k x hq0 h2
        exact absurd h3 (by simp only [fresh]; omega)
    rcases B.cls i p hi hp with ⟨i0, hb, hp0⟩ | ⟨i0, j0, n0, hs', hp0⟩ <;> rcases B.cls j q hj hq with ⟨i1, hb1, hq0⟩ | ⟨i1, j1, n1, hs1, hq0⟩
    · refine hfin.h.dj i0 i1 p q hp0 hq0 ?_ k x h1 h2
      rintro rfl
      rw [hb] at hb1; cases hb1
      exact hne rfl
    · exact hAB hb hp0 hs1 hq0 h1 h2
    · exact hAB hb1 hq0 hs' hp0 h2 h1
    · exact h.dj i j p q hp0 hq0 hne k x h1 h2
  · rcases B.cls i p hi hp with ⟨i0, hb, hp0⟩ | ⟨i0, j0, n0, hs', hp0⟩
    · exact hfin.h.dz i0 p hp0 k x h1 (hZZ k x h2)
    · rcases h2 with h2 | ⟨h2, hl⟩
      · exact h.dz i p hp0 k x h1 h2
      · rcases hfin.z2 k x h2 with (hz | hz) | hs | hf
        · exact h.dz i p hp0 k x h1 hz
        · exact hl hz
        · obtain ⟨i3, s3, p3, hs3, hp3, hsel3, hps3⟩ := hselS k x hs
          by_cases e : s3.o = i
          · have := sel_inj hd hs3 hs' e
            subst this
            rw [hs'] at hs3; cases hs3
            obtain ⟨p', hp', hS'⟩ := hwin _ _ _ _ hs'
            exact hfin.h.dz i3 p' hp' k x ((hS' k x).2 hsel3) h2
          · exact h.dj s3.o i p3 p hp3 hp0 e k x hps3 h1
        · have := h.lt i p k x hp0 h1
          exact absurd hf (by simp only [fresh]; omega)
  · intro hmle hdis i ob p ho hp hi
    rcases B.cls i p hi hp with ⟨i0, hb, hp0⟩ | ⟨i0, j0, n0, hs', hp0⟩
    · have hx : ∃ x, Hc'[i0]? = some x ∧ bcOb brw sel M.length x = some ob := by
        unfold bixW at hb
        split at hb
        · rename_i o' hs'
          cases hb
          have hl := hlt hs'
          obtain ⟨x, hx, hh⟩ := W.sel i0 _ hs' ob ho (h.ml ▸ hl)
          rcases hh with ⟨o2, e3, hh⟩ | ⟨o2, j2, n2, ds, ds', cs2, e3, _⟩
          · exact ⟨x, hx, hh⟩
          · cases e3
        · cases hb
        · rename_i hs'
          cases hb
          have hge : sel.length ≤ i0 := by simpa using hs'
          rw [h.ml] at ho
          obtain ⟨x, hx, hh⟩ := W.new _ ob ho
          rw [show sel.length + (i0 - sel.length) = i0 from by omega] at hx
          exact ⟨x, hx, hh⟩
      obtain ⟨x, hx, hbx⟩ := hx
      exact bcOb_rel hback hbx (hfin.h.ob i0 x p hx hp0)
    · have hl := hlt hs'
      simp only [Sel.o] at hl
      obtain ⟨x, hx, hh⟩ := W.sel i0 _ hs' ob ho (h.ml ▸ hl)
      rcases hh with ⟨o2, e3, hh⟩ | ⟨o2, j2, n2, ds, ds', cs, e3, rfl, hds, hHo, hn, hle, rfl⟩
      · cases e3
      · cases e3
        obtain ⟨p', hp', hav, _⟩ := hfin.pl i0 _ (selM_get (M := M) hs')
        obtain ⟨q, hq, _, hc⟩ := sel_pl h hH hs'
        rcases hc with ⟨o1, e1, _⟩ | ⟨o1, j1, n1, b1, f1, cs1, e1, hHo', _, ha1, e2, hS1⟩
        · cases e1
        · cases e1
          rw [hHo] at hHo'; cases hHo'
          simp only [Sel.o] at hq
          rw [hp0] at hq; cases hq
          obtain ⟨b, f, ha, hS, hfz, vs, hv, hcell⟩ := hfin.h.ob i0 _ p' hx hp'
          rw [ha, e2] at hav
          simp only [Option.some.injEq, Addr.mk.injEq] at hav
          obtain ⟨rfl, rfl, _⟩ := hav
          obtain ⟨b2, f2, ha2, hS2, hfz2, vs2, hv2, hcell2⟩ := h.ob i _ p hHo hp0
          rw [ha1] at ha2; cases ha2
          have hdl := bcCs_len hds
          have hvl := hv.len
          have hvl2 := hv2.len
          have hlen2 : (splice cs ds' j0).length = cs.length := by simp [splice]; omega
          have hout : ∀ x, f1 ≤ x → x < f1 + cs.length → ¬ (f1 + j0 ≤ x ∧ x < f1 + j0 + n0) → ¬ allS (selM M sel) b x := by
            intro x hx1 hx2 hx3 hs
            obtain ⟨i3, s3, p3, hs3, hp3, hsel3, hps3⟩ := hselS b x hs
            by_cases e : s3.o = i
            · have := sel_inj hd hs3 hs' e
              subst this
              rw [hs'] at hs3; cases hs3
              rw [e2] at hsel3
              exact hx3 hsel3.2
            · exact h.dj s3.o i p3 p hp3 hp0 e b x hps3 ((hS2 b x).2 ⟨rfl, hx1, hx2⟩)
          have hmono : ∀ {cs1 : List C} {us : List Value}, (∀ d, d ∈ depsOf cs1 → d ∈ st.deps) → CsRel M Z w cs1 us → CsRel (bM M sel M') (bZ brw M Z sel Z') w' cs1 us := fun hdp hcs =>
            hcs.mono hfin.kp (fun _ _ hz => .inl hz) (hmle.sub hdp) fun d hd => hdis d (hdp d hd)
          have hdepcs : ∀ d, d ∈ depsOf cs → d ∈ st.deps := fun d hd => St.dep_H hHo hd
          refine ⟨b, f1, ha1, fun k x => by rw [hS2 k x, hlen2], fun l hl => ?_, vs2.take j0 ++ vs ++ vs2.drop (j0 + ds.length), ?_, fun l u hl => ?_⟩
          · have hl' : l < cs.length := by omega
            have := hcell2 l _ (List.getElem?_eq_getElem (by omega))
            by_cases hwin : f1 + j0 ≤ f1 + l ∧ f1 + l < f1 + j0 + n0
            · have := hfz (l - j0) (by omega)
              rwa [show f1 + j0 + (l - j0) = f1 + l from by omega] at this
            · rw [hfin.kp.frozen (cell_lt this) (hout _ (by omega) (by omega) hwin)]
              exact hfz2 l hl'
          · refine ((hmono (fun d hd => hdepcs d ?_) (hv2.take j0)).append (bcCs_rel hback hds hv)).append ?_
            · simp only [depsOf, List.mem_flatMap] at hd ⊢
              obtain ⟨c, hc, hcd⟩ := hd
              exact ⟨c, List.mem_of_mem_take hc, hcd⟩
            · rw [hdl]
              refine hmono (fun d hd => hdepcs d ?_) (hv2.drop (j0 + ds.length))
              simp only [depsOf, List.mem_flatMap] at hd ⊢
              obtain ⟨c, hc, hcd⟩ := hd
              exact ⟨c, List.mem_of_mem_drop hc, hcd⟩
          · have htl : (vs2.take j0).length = j0 := by simp; omega
            rcases Nat.lt_or_ge l j0 with h1 | h1
            · rw [List.append_assoc, List.getElem?_append_left (by omega), List.getElem?_take_of_lt h1] at hl
              have hll := (List.getElem?_eq_some_iff.1 hl).1
              exact hfin.kp.cell (hcell2 l u hl) (hout _ (by omega) (by omega) (by omega))
            · rcases Nat.lt_or_ge l (j0 + ds.length) with h3 | h3
              · rw [List.getElem?_append_left (by simp; omega), List.getElem?_append_right (by omega), htl] at hl
                have := hcell (l - j0) u hl
                rwa [show f1 + j0 + (l - j0) = f1 + l from by omega] at this
              · rw [List.getElem?_append_right (by simp; omega)] at hl
                simp only [List.length_append, htl, hvl, List.getElem?_drop] at hl
                rw [show j0 + ds.length + (l - (j0 + ds.length)) = l from by omega] at hl
                have hll := (List.getElem?_eq_some_iff.1 hl).1
                exact hfin.kp.cell (hcell2 l u hl) (hout _ (by omega) (by omega) (by omega))
end
end Go.Proofs.YtmbbapeiikifgaaGreatDoor
