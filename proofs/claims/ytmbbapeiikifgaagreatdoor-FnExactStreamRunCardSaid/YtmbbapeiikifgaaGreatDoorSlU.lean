/- An element of a row is written. -/
import Derived.Test.YtmbbapeiikifgaaGreatDoorSlT
namespace Go.Proofs.YtmbbapeiikifgaaGreatDoor
open Go
def upd0 : (t : Ty) → t.T → Nat → List C → Option t.T
  | .int k, _, j, cs => if j = 0 then decI k cs else none
  | .bool, _, j, cs => if j = 0 then decB cs else none
  | .str, _, j, cs => if j = 0 then decS cs else none
  | .pair a b, x, j, cs =>
    if j + cs.length ≤ a.sz then (upd0 a x.1 j cs).map fun y => (y, x.2)
    else if a.sz ≤ j then (upd0 b x.2 (j - a.sz) cs).map fun y => (x.1, y)
    else match upd0 a x.1 j (cs.take (a.sz - j)), upd0 b x.2 0 (cs.drop (a.sz - j)) with
      | some y, some z => some (y, z)
      | _, _ => none
  | .own _, _, _, _ => none
theorem upd0_len : ∀ {t : Ty} {x x' : t.T} {j : Nat} {cs : List C}, upd0 t x j cs = some x' → j + cs.length ≤ t.sz := by
  intro t
  induction t with
  | int k =>
    intro x x' j cs h
    simp only [upd0] at h
    split at h
    · subst_vars
      unfold decI at h
      split at h
      · simp [Ty.sz]
      · cases h
    · cases h
  | bool =>
    intro x x' j cs h
    simp only [upd0] at h
    split at h
    · subst_vars
      unfold decB at h
      split at h
      · simp [Ty.sz]
      · cases h
    · cases h
  | str =>
    intro x x' j cs h
    simp only [upd0] at h
    split at h
    · subst_vars
      unfold decS at h
      split at h
      · simp [Ty.sz]
      · cases h
    · cases h
  | pair a b iha ihb =>
    intro x x' j cs h
    simp only [upd0] at h
    simp only [Ty.sz]
    split at h
    · omega
    · split at h
      · simp only [Option.map_eq_some_iff] at h
        obtain ⟨y, hy, _⟩ := h
        have := ihb hy
        omega
      · split at h
        · rename_i y z h1 h2
          have := ihb h2
          simp at this
          omega
        · cases h
  | own t ih => intro x x' j cs h; simp [upd0] at h
theorem upd0_own {M : List Pl} {Z : CS} {w0 w w' : World} {X : CS} (hk : Keep w w' X) : ∀ {t : Ty} {x x' : t.T} {j : Nat} {cs : List C} {vs : List Value} {b o : Nat} {S : CS}, upd0 t x j cs = some x' → CsRel M Z w0 cs vs →
    (∀ k i, X k i → k = b ∧ (o ≤ i → i < o + t.sz → o + j ≤ i ∧ i < o + j + cs.length)) → (∀ i v, vs[i]? = some v → w'.cell? ⟨b, o + j + i, none⟩ = some v) → (∀ i, ¬ S b i) → ElemOwn w t x b o S → ElemOwn w' t x' b o S := by
  intro t
  induction t with
  | int k =>
    intro x x' j cs vs b o S h hc hX hcell hS hown
    simp only [upd0] at h
    split at h
    · subst_vars
      unfold decI at h
      split at h
      · split at h
        · rename_i hk'
          subst hk'
          cases h
          obtain ⟨v, h1, h2⟩ := cells_one hc (b := b) (o := o) hcell
          cases h1
          exact ⟨h2, hown.2⟩
        · cases h
      · cases h
    · cases h
  | bool =>
    intro x x' j cs vs b o S h hc hX hcell hS hown
    simp only [upd0] at h
    split at h
    · subst_vars
      unfold decB at h
      split at h
      · cases h
        obtain ⟨v, h1, h2⟩ := cells_one hc (b := b) (o := o) hcell
        cases h1
        exact ⟨h2, hown.2⟩
      · cases h
    · cases h
  | str =>
    intro x x' j cs vs b o S h hc hX hcell hS hown
    simp only [upd0] at h
    split at h
    · subst_vars
      unfold decS at h
      split at h
      · cases h
        obtain ⟨v, h1, h2⟩ := cells_one hc (b := b) (o := o) hcell
        cases h1
        exact ⟨h2, hown.2⟩
      · cases h
    · cases h
  | pair a c iha ihc =>
    intro x x' j cs vs b o S h hc hX hcell hS hown
    obtain ⟨S1, S2, h1, h2, hdd, hs⟩ := hown
    have hS1 : ∀ i, ¬ S1 b i := fun i hi => hS i ((hs b i).2 (.inl hi))
    have hS2 : ∀ i, ¬ S2 b i := fun i hi => hS i ((hs b i).2 (.inr hi))
    have hD : ∀ {T : CS}, (∀ i, ¬ T b i) → Disj X T := fun hT k i hx ht => by
      have := (hX k i hx).1
      subst this
      exact hT i ht
    have hlen := upd0_len h
    simp only [Ty.sz] at hlen hX
    simp only [upd0] at h
    split at h
    · rename_i hle
      simp only [Option.map_eq_some_iff] at h
      obtain ⟨y, hy, rfl⟩ := h
      refine ⟨S1, S2, iha hy hc (fun k i hx => ⟨(hX k i hx).1, fun a1 a2 => (hX k i hx).2 a1 (by omega)⟩) hcell hS1 h1, ElemOwn.keep hk (fun i a1 a2 hx => ?_) (hD hS2) h2, hdd, hs⟩
      have := (hX b i hx).2 (by omega) (by omega)
      omega
    · split at h
      · rename_i hle hge
        simp only [Option.map_eq_some_iff] at h
        obtain ⟨y, hy, rfl⟩ := h
        refine ⟨S1, S2, ElemOwn.keep hk (fun i a1 a2 hx => ?_) (hD hS1) h1, ihc hy hc (fun k i hx => ⟨(hX k i hx).1, fun a1 a2 => ?_⟩) (fun i v hi => ?_) hS2 h2, hdd, hs⟩
        · have := (hX b i hx).2 (by omega) (by omega)
          omega
        · have := (hX k i hx).2 (by omega) (by omega)
          omega
        · have := hcell i v hi
          rwa [show o + a.sz + (j - a.sz) + i = o + j + i from by omega]
      · rename_i hle hlt
        split at h
        · rename_i y z hy hz
          cases h
          have hl := hc.len
          refine ⟨S1, S2, iha hy (hc.take _) (fun k i hx => ⟨(hX k i hx).1, fun a1 a2 => ?_⟩) (fun i v hi => ?_) hS1 h1, ihc hz (hc.drop _) (fun k i hx => ⟨(hX k i hx).1, fun a1 a2 => ?_⟩) (fun i v hi => ?_) hS2 h2, hdd, hs⟩
          · have := (hX k i hx).2 (by omega) (by omega)
            simp only [List.length_take]
            omega
          · have hlt' : i < a.sz - j := by have := (List.getElem?_eq_some_iff.1 hi).1; simp at this; omega
            rw [List.getElem?_take_of_lt hlt'] at hi
            exact hcell i v hi
          · have := (hX k i hx).2 (by omega) (by omega)
            simp only [List.length_drop]
            omega
          · rw [List.getElem?_drop] at hi
            have := hcell _ v hi
            rwa [show o + a.sz + 0 + i = o + j + (a.sz - j + i) from by omega]
        · cases h
  | own t ih => intro x x' j cs vs b o S h; simp [upd0] at h
theorem row_upd {M : List Pl} {Z : CS} {w0 w w' : World} {t : Ty} {xs : List t.T} {p : Pl} {i j : Nat} {x x' : t.T} {cs : List C} {vs : List Value} {g : Nat} (hrow : RowOwn w t xs p) (ha : p.av = some ⟨g, 0, none⟩) (hx : xs[i]? = some x)
    (hu : upd0 t x j cs = some x') (hc : CsRel M Z w0 cs vs) (hk : Keep w w' (fun k l => k = g ∧ i * t.sz + j ≤ l ∧ l < i * t.sz + j + cs.length)) (hcell : ∀ l v, vs[l]? = some v → w'.cell? ⟨g, i * t.sz + j + l, none⟩ = some v) : RowOwn w' t (xs.set i x') p := by
  obtain ⟨hn, hr⟩ := hrow
  refine ⟨by simpa using hn, .inr ?_⟩
  rcases hr with ⟨ha', _⟩ | ⟨g', cur, e, ha', hg, hcs, hcap, Ss, hel, hdd, hgg, hS⟩
  · rw [ha] at ha'; cases ha'
  · rw [ha] at ha'; cases ha'
    have hlt := (Array.getElem?_eq_some_iff.1 hg).1
    have hiL := (List.getElem?_eq_some_iff.1 hx).1
    have hul := upd0_len hu
    have hblk : ∃ cur', w'.heap[g]? = some (.cells cur' e (0, 0)) ∧ cur'.size = cur.size := by
      rcases hk.blk g hlt with h1 | ⟨c1, c2, e1, fr1, h1, h2, hs, _⟩ | ⟨es, n, es', n', h1, _⟩ | ⟨_, _, _, _, _, _, _, _, hxx⟩
      · exact ⟨cur, h1.trans hg, rfl⟩
      · rw [hg] at h1; simp only [Option.some.injEq, Obj.cells.injEq] at h1
        obtain ⟨rfl, rfl, rfl⟩ := h1
        exact ⟨c2, h2, hs⟩
      · rw [hg] at h1; cases h1
      · have := hxx (i * t.sz + j + cs.length); omega
    obtain ⟨cur', hg', hcs'⟩ := hblk
    refine ⟨g, cur', e, ha, hg', hcs'.trans hcs, by simpa using hcap, Ss, fun l y hl => ?_, by simpa using hdd, by simpa using hgg, by simpa using hS⟩
    rw [List.getElem?_set] at hl
    have hmul : ∀ {m n : Nat}, m < n → m * t.sz + t.sz ≤ n * t.sz := fun {m n} h => by
      have := Nat.mul_le_mul_right t.sz (Nat.succ_le_of_lt h)
      rwa [Nat.succ_mul] at this
    split at hl
    · rename_i hil
      subst hil
      simp at hl
      subst hl
      exact upd0_own hk hu hc (fun k l hX => ⟨hX.1, fun _ _ => hX.2⟩) hcell (fun l => hgg i hiL l) (hel i x hx)
    · rename_i hil
      have hlL := (List.getElem?_eq_some_iff.1 hl).1
      refine ElemOwn.keep hk (fun q a1 a2 hX => ?_) (fun k q hX hs => ?_) (hel l y hl)
      · obtain ⟨_, h3, h4⟩ := hX
        rcases Nat.lt_or_gt_of_ne hil with h5 | h5
        · have := hmul h5; omega
        · have := hmul h5; omega
      · obtain ⟨rfl, _⟩ := hX
        exact hgg l hlL q hs
def evRowStore (P : Program) (st : St) (t : TypeId) (x v : Operand) : Option MRes :=
  match x, opd st.T x, opd st.T v, P.info? t with
  | .tmp d, some (.p (.c (.ep o i t' y j))), some (.p pv), some inf =>
    match st.H[o]? with
    | some (.row t2 xs) =>
      if h : t2 = t' then
        if (pcells pv).length = inf.size ∧ (st.H.flatMap Ob.deps).contains (some o) = false ∧ (depsOf (pcells pv)).contains (some o) = false then
          (upd0 t' y j (pcells pv)).map fun y' => ⟨none, ⟨tput (st.T.filter fun p => !(p.2.deps.contains (some o))) d (.p (.c (.ep o i t' y' j))), st.H.set o (.row t' ((h ▸ xs : List t'.T).set i y'))⟩, none, .dep (some o)⟩
        else none
      else none
    | _ => none
  | _, _, _, _ => none
section
variable {E : Env} {st : St} {M : List Pl} {Z : CS} {a : Act} {w w' : World} {o : Oper} {r : MRes}
theorem Rel.tell (h : Rel E st M Z a w) {d : Nat} {y : AV} {v : Value} (hv : a.tmps[d]? = some v) (hy : ARel M Z w y v) : Rel E ⟨tput st.T d y, st.H⟩ M Z a w :=
  { h with
    df := h.df
    tm := fun d' z hz => by
      simp only [tput, List.mem_cons, Prod.mk.injEq, List.mem_filter, bne_iff_ne] at hz
      rcases hz with ⟨rfl, rfl⟩ | ⟨hz, _⟩
      · exact ⟨v, hv, hy⟩
      · exact h.tm d' z hz }
theorem ElemRd.inj {S S' : CS} : ∀ {t : Ty} {x y : t.T} {b o : Nat}, ElemRd S w t x b o → ElemRd S' w t y b o → x = y := by
  intro t
  induction t with
  | int k => intro x y b o h1 h2; have := h1.1.symm.trans h2.1; simpa using this
  | bool => intro x y b o h1 h2; have := h1.1.symm.trans h2.1; simpa using this
  | str => intro x y b o h1 h2; have := h1.1.symm.trans h2.1; simpa using this
  | pair a c iha ihc => intro x y b o h1 h2; exact Prod.ext (iha h1.1 h2.1) (ihc h1.2 h2.2)
  | own t ih =>
    rintro xs ys b o ⟨av, cap, h1, _, _, hr⟩ ⟨av', cap', h1', _, _, hr'⟩
    have he := h1.symm.trans h1'
    simp only [Option.some.injEq, Value.slice.injEq] at he
    obtain ⟨rfl, hl, rfl⟩ := he
    rcases hr with rfl | ⟨b1, o1, rfl, hel⟩
    · exact (List.eq_nil_of_length_eq_zero hl.symm).symm
    · rcases hr' with rfl | ⟨b2, o2, ha, hel'⟩
      · exact List.eq_nil_of_length_eq_zero hl
      · cases ha
        refine List.ext_getElem hl fun i h2 h3 => ?_
        exact ih (hel i _ (List.getElem?_eq_getElem h2)) (hel' i _ (List.getElem?_eq_getElem h3))
theorem evRowStore_ok (hr : Rel E st M Z a w) {t : TypeId} {x v : Operand} (ho : o.op = .store t x v) (h : evRowStore E.P st t x v = some r) : MOk E M Z a w o r := by
  unfold evRowStore at h
  split at h
  · rename_i d o' i t' y j pv inf hv hinf hx
    split at h
    · rename_i t2 xs hH
      split at h
      · rename_i heq
        subst heq
        split at h
        · rename_i hcond
          obtain ⟨hsz, hHd, hpd⟩ := hcond
          simp only [Option.map_eq_some_iff] at h
          obtain ⟨y', hy', rfl⟩ := h
          obtain ⟨p, g, hp, ha, hi, he, hev⟩ := opd_rel hr hx
          have hvr : PRel M Z w pv (a.eval v) := opd_rel hr hv
          have hvc := hvr.cells
          have hlv := hvc.len
          have hrow : RowOwn w t2 xs p := hr.ob o' _ p hH hp
          have hxi : xs[i]? = some y := by
            have hlt : i < xs.length := by rw [← hrow.1]; exact hi
            rw [List.getElem?_eq_getElem hlt]
            rcases hrow.2 with ⟨ha', _⟩ | ⟨g', cur, e, ha', hg, hcs, hcap, Ss, hel, hdd, hgg, hS⟩
            · rw [ha] at ha'; cases ha'
            · rw [ha] at ha'; cases ha'
              have := (hel i _ (List.getElem?_eq_getElem hlt)).rd (S' := p.S) (fun q _ _ => (hS g q).2 (.inl rfl)) fun k q hk => (hS k q).2 (.inr ⟨i, hlt, hk⟩)
              exact congrArg some (this.inj he)
          have hul := upd0_len hy'
          have hblk : ∃ cur e, w.heap[g]? = some (.cells cur e (0, 0)) ∧ i * t2.sz + t2.sz ≤ cur.size ∧ ∀ q, p.S g q := by
            rcases hrow.2 with ⟨ha', _⟩ | ⟨g', cur, e, ha', hg, hcs, hcap, Ss, hel, hdd, hgg, hS⟩
            · rw [ha] at ha'; cases ha'
            · rw [ha] at ha'; cases ha'
              refine ⟨cur, e, hg, ?_, fun q => (hS g q).2 (.inl rfl)⟩
              have := Nat.mul_le_mul_right t2.sz (show i + 1 ≤ p.cap by have := hrow.1; omega)
              rw [Nat.succ_mul] at this
              omega
          obtain ⟨cur, e, hg, hfit, hSg⟩ := hblk
          obtain ⟨w', hrun, hk, hcells⟩ := run_storeCells (P := E.P) (b := g) (f := i * t2.sz + j) (a.eval v).cells.toList 0 w hvc.ones fun l hl => by
            refine ⟨⟨cur[i * t2.sz + j + 0 + l]'(by omega), cell_iff.2 ⟨cur, e, (0, 0), hg, by simp⟩⟩, ?_⟩
            exact frozen_of_row w g _ cur e hg
          simp only [Nat.add_zero] at hk hcells
          rw [hlv] at hk
          have hrow' := row_upd hrow ha hxi hy' hvc hk hcells
          have hsub := hr.sub (T := st.T.filter fun p => !(p.2.deps.contains (some o'))) fun q hq => (List.mem_filter.1 hq).1
          have hfree : (⟨st.T.filter fun p => !(p.2.deps.contains (some o')), st.H⟩ : St).free o' = true := by
            simp only [St.free, St.deps, List.contains_eq_mem, List.mem_append, List.mem_flatMap, Bool.not_eq_true', decide_eq_false_iff_not, not_or, not_exists, not_and, List.mem_filter] at hHd ⊢
            refine ⟨fun q hq => ?_, hHd⟩
            simpa using hq.2
          have hupd := hsub.upd hk (p' := p) (o' := .row t2 (xs.set i y')) hp (fun k q hX => by obtain ⟨rfl, _⟩ := hX; exact hSg q) hfree rfl rfl rfl (fun _ _ h => h) (by
            show RowOwn w' t2 (xs.set i y') p
            exact hrow')
          rw [set_same hp] at hupd
          have htd : ∃ u, a.tmps[d]? = some u ∧ u = .pointer (some ⟨g, i * t2.sz + j, none⟩) := by
            obtain ⟨u, hu, _⟩ := hr.tm d _ (tget_mem hx)
            refine ⟨u, hu, ?_⟩
            have : a.eval (.tmp d) = u := by simp [Act.eval, Array.getD_eq_getD_getElem?, hu]
            rw [← this]; exact hev
          obtain ⟨u, hu, hue⟩ := htd
          have hel' : ElemRd p.S w' t2 y' g (i * t2.sz) := by
            rcases hrow'.2 with ⟨ha', _⟩ | ⟨g', cur', e', ha', hg', hcs', hcap', Ss, hel, hdd, hgg, hS⟩
            · rw [ha] at ha'; cases ha'
            · rw [ha] at ha'; cases ha'
              have hlt : i < (xs.set i y').length := by have := hrow.1; simp; omega
              have hget : (xs.set i y')[i]? = some y' := by rw [List.getElem?_set]; simp at hlt; simp [hlt]
              exact (hel i y' hget).rd (fun q _ _ => (hS g q).2 (.inl rfl)) fun k q hk => (hS k q).2 (.inr ⟨i, hlt, hk⟩)
          have hfin := hupd.tell hu (y := .p (.c (.ep o' i t2 y' j))) ⟨p, g, hp, ha, hi, hel', hue⟩
          refine ⟨M, w', hfin, MSub.refl M, fun i0 p' k q hi0 hl _ => absurd (List.getElem?_eq_some_iff.1 hi0).1 (by omega), hk.mono fun k q hX => ?_, ?_⟩
          · obtain ⟨rfl, _⟩ := hX
            exact ⟨p, hp, hSg q⟩
          · dsimp only
            have hsz' : (a.eval v).cells.size = inf.size := by simp only [Array.length_toList] at hlv; omega
            simp [execOp, ho, hev, Instr.storeAt, Instr.sureAddr, storeVar, run_sizeOf hinf, hsz', hrun]
        · cases h
      · cases h
    · cases h
  · cases h
end
end Go.Proofs.YtmbbapeiikifgaaGreatDoor
