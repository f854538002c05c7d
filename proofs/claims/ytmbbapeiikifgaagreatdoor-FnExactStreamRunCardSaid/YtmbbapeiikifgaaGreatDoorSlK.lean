/- Regions that draw their order: whatever order is drawn, the operations may be met in one chosen order. -/
import Derived.Test.YtmbbapeiikifgaaGreatDoorSlJ
namespace Go.Proofs.YtmbbapeiikifgaaGreatDoor
open Go
structure Hy (wr : World) (X : CS) (n : Nat) (pr wt : List Rd) (M : List Pl) (Z : CS) (w : World) : Prop where
  keep : Keep wr w X
  pr : ∀ r, r ∈ pr → (∀ k j, r.set M Z k j → k < wr.heap.size) ∧ Disj X (r.set M Z)
  wt : ∀ r, r ∈ wt → ∀ k j, r.set M Z k j → X k j ∨ fresh wr k j
  new : ∀ (o : Nat) (p : Pl) k j, n ≤ o → M[o]? = some p → p.S k j → X k j ∨ fresh wr k j
  len : n ≤ M.length
def WA (E : Env) (k : List Item) (ops : Array Oper) (n : Nat) (pr wt : List Rd) (fuel : Nat) (listed : Array Bool) (st : St) : Prop :=
  ∀ wr X M Z a w, Rel E st M Z a w → Hy wr X n pr wt M Z w →
    wpAnyH E.P .any ops (fun e a' w' => e = .normal ∧ ∀ cs, Ter E cs k a' w') (fun w' => Keep wr w' X) fuel listed a w
theorem Keep.cell_back {w w' : World} {X : CS} (hk : Keep w w' X) {b o : Nat} {v : Value} (h : w'.cell? ⟨b, o, none⟩ = some v) (hb : b < w.heap.size) (hx : ¬ X b o) : w.cell? ⟨b, o, none⟩ = some v := by
  obtain ⟨c, e, fr, hbk, hc⟩ := cell_iff.1 h
  rcases hk.blk b hb with h1 | ⟨c1, c2, e1, fr1, h1, h2, hs, hcc⟩ | ⟨es, n, es', n', h1, h2, _⟩ | ⟨_, _, _, _, _, _, _, _, hxx⟩
  · exact cell_iff.2 ⟨c, e, fr, h1 ▸ hbk, hc⟩
  · rw [hbk] at h2
    simp only [Option.some.injEq, Obj.cells.injEq] at h2
    obtain ⟨rfl, rfl, rfl⟩ := h2
    exact cell_iff.2 ⟨c1, e, fr, h1, (hcc o hx) ▸ hc⟩
  · rw [hbk] at h2; cases h2
  · exact absurd (hxx o) hx
def apartRd : Rd → Rd → Bool
  | .no, _ => true
  | .cells o j n, .cells o' j' n' => o != o' || (decide (j + n ≤ j') || decide (j' + n' ≤ j))
  | .cells o _ _, .dep (some o') => o != o'
  | .dep (some o'), .cells o _ _ => o != o'
  | .dep (some o), .dep (some o') => o != o'
  | .dep none, _ => true
  | _, _ => false
def calmRd (pr : List Rd) : Rd → Bool
  | .no => true
  | .cells o j m => pr.any (fun r => match r with | .cells o' j' m' => o == o' && (decide (j' ≤ j) && decide (j + m ≤ j' + m')) | _ => false)
  | .dep d => pr.any (fun r => match r with | .dep d' => d == d' | _ => false)
def okRd (H : List Ob) : Rd → Bool
  | .no => true
  | .dep none => true
  | .cells o j m => match H[o]? with | some (.box cs) => decide (j + m ≤ cs.length) | _ => false
  | .dep (some o) => decide (o < H.length)
section
variable {E : Env} {k : List Item} {ops : Array Oper} {n : Nat} {pr pr' wt : List Rd} {fuel : Nat} {listed : Array Bool} {st : St}
theorem calm_spec {wr : World} {X : CS} {M : List Pl} {Z : CS} {w : World} (hy : Hy wr X n pr wt M Z w) {r : Rd} (h : calmRd pr r = true) :
    (∀ k j, r.set M Z k j → k < wr.heap.size) ∧ Disj X (r.set M Z) := by
  cases r with
  | no => exact ⟨fun _ _ h => h.elim, fun _ _ _ h => h.elim⟩
  | cells o j m =>
    simp only [calmRd, List.any_eq_true] at h
    obtain ⟨r', hr', hr''⟩ := h
    split at hr''
    · rename_i o' j' m'
      simp only [Bool.and_eq_true, beq_iff_eq, decide_eq_true_eq] at hr''
      obtain ⟨rfl, h1, h2⟩ := hr''
      obtain ⟨g1, g2⟩ := hy.pr _ hr'
      have hsub : ∀ k x, Rd.set M Z (.cells o j m) k x → Rd.set M Z (.cells o j' m') k x := fun k x ⟨p, b, f, hp, ha, hk, h3, h4⟩ => ⟨p, b, f, hp, ha, hk, by omega, by omega⟩
      exact ⟨fun k x hs => g1 k x (hsub k x hs), fun k x hx hs => g2 k x hx (hsub k x hs)⟩
    · cases hr''
  | dep d =>
    simp only [calmRd, List.any_eq_true] at h
    obtain ⟨r', hr', hr''⟩ := h
    split at hr''
    · simp only [beq_iff_eq] at hr''
      subst hr''
      exact hy.pr _ hr'
    · cases hr''
theorem panicQ {E : Env} {k : List Item} {dst : Option Tmp} {v : Value} (c : List PanicEntry) (a : Act) (w : World) (h : (fun (e : Exit) (a' : Act) (w' : World) => e = Exit.normal ∧ ∀ cs, Ter E cs k a' w') (.panic c) (a.put dst v) w) :
    (fun (e : Exit) (a' : Act) (w' : World) => e = Exit.normal ∧ ∀ cs, Ter E cs k a' w') (.panic c) a w := by
  obtain ⟨h, _⟩ := h; cases h
theorem WA.take {i : Nat} {o : Oper} (ho : ops[i]? = some o) (hs : Region.noSelect ops = true) (hf : Region.free .any ops listed i = true) (hrd : (Region.ready .any ops listed).contains i = true)
    (hg : guardOk ops st.T o = some true) {wit : Option Wit} {r : VRes} (hv : evV E.P st wit o = some r) (hc : met r.c) (hcalm : calmRd pr r.rd = true)
    {st' : St} (hp : put1 E.nt o ⟨some r.y, st, r.c, .no⟩ = some st') (h : WA E k ops n pr wt fuel (listed.setIfInBounds i true) st') : WA E k ops n pr wt (fuel + 1) listed st := by
  intro wr X M Z a w hr hy
  obtain ⟨v, hvr, hrun⟩ := evV_ok hr hv hc
  obtain ⟨hlt, hdis⟩ := calm_spec hy hcalm
  refine wpAnyH_take ho hs hf hrd (v := v) (fun c a w => panicQ c a w) (.inl ⟨guardOk_spec hr hg, fun w' hw' => hrun w' fun k j u hs hu => ?_⟩) hy.keep ?_
  · exact hw'.cell (hy.keep.cell_back hu (hlt k j hs) fun hx => hdis k j hx hs) fun hx => hdis k j hx hs
  · unfold put1 at hp
    split at hp
    · rename_i d y hd hry
      split at hp
      · rename_i hlt'
        cases hp
        cases hry
        rw [hd]
        exact h wr X M Z _ w (hr.put hlt' hvr) hy
      · cases hp
    · rename_i d hd hry; cases hry
    · rename_i hd
      cases hp
      rw [hd]
      exact h wr X M Z _ w hr hy
theorem WA.skip {i : Nat} {o : Oper} (ho : ops[i]? = some o) (hs : Region.noSelect ops = true) (hf : Region.free .any ops listed i = true) (hrd : (Region.ready .any ops listed).contains i = true)
    (hg : guardOk ops st.T o = some false) {st' : St} (hp : skipOp E.nt o st = some st') (h : WA E k ops n pr wt fuel (listed.setIfInBounds i true) st') : WA E k ops n pr wt (fuel + 1) listed st := by
  intro wr X M Z a w hr hy
  exact wpAnyH_take ho hs hf hrd (v := undef) (fun c a w => panicQ c a w) (.inr ⟨guardOk_spec hr hg, rfl⟩) hy.keep (h wr X M Z _ w (skipOp_spec hr hp) hy)
def WO (E : Env) (k : List Item) (ops : Array Oper) (n : Nat) (pr wt : List Rd) (fuel : Nat) (listed : Array Bool) (st : St) (i : Nat) : Prop :=
  ∀ wr X M Z a w, Rel E st M Z a w → Hy wr X n pr wt M Z w →
    wpOp E.P ops (fun e a' w' => e = .normal ∧ ∀ cs, Ter E cs k a' w') i (fun a' w' => Keep wr w' X ∧
      wpAnyH E.P .any ops (fun e a' w' => e = .normal ∧ ∀ cs, Ter E cs k a' w') (fun w' => Keep wr w' X) fuel (listed.setIfInBounds i true) a' w') a w
theorem WA.fork (rs : List Nat) (hrd : Region.ready .any ops listed = rs) (hne : rs ≠ []) (h : ∀ i, i ∈ rs → WO E k ops n pr wt fuel listed st i) : WA E k ops n pr wt (fuel + 1) listed st :=
  fun wr X M Z a w hr hy => wpAnyH_all hrd hne fun j hj => h j hj wr X M Z a w hr hy
theorem WA.one (i : Nat) (hrd : Region.ready .any ops listed = [i]) (h : WO E k ops n pr wt fuel listed st i) : WA E k ops n pr wt (fuel + 1) listed st :=
  .fork [i] hrd (by simp) fun j hj => by simp only [List.mem_singleton] at hj; subst hj; exact h
theorem WO.wp {i : Nat} {o : Oper} (ho : ops[i]? = some o) (hg : guardOk ops st.T o = some true)
    (h : ∀ wr X M Z a w, Rel E st M Z a w → Hy wr X n pr wt M Z w → o.wp E.P a w (fun a' w' => Keep wr w' X ∧
      wpAnyH E.P .any ops (fun e a' w' => e = .normal ∧ ∀ cs, Ter E cs k a' w') (fun w' => Keep wr w' X) fuel (listed.setIfInBounds i true) a' w') (fun e a' w' => e = .normal ∧ ∀ cs, Ter E cs k a' w')) :
    WO E k ops n pr wt fuel listed st i := by
  intro wr X M Z a w hr hy
  unfold wpOp
  simp only [ho, guardOk_spec hr hg, if_true]
  exact .inl (h wr X M Z a w hr hy)
theorem WO.skip {i : Nat} {o : Oper} (ho : ops[i]? = some o) (hg : guardOk ops st.T o = some false) {st' : St} (hp : skipOp E.nt o st = some st')
    (h : WA E k ops n pr wt fuel (listed.setIfInBounds i true) st') : WO E k ops n pr wt fuel listed st i := by
  intro wr X M Z a w hr hy
  unfold wpOp
  simp only [ho, guardOk_spec hr hg, Bool.false_eq_true, if_false]
  exact ⟨hy.keep, h wr X M Z _ w (skipOp_spec hr hp) hy⟩
theorem WA.done (hrd : Region.ready .any ops listed = []) (h : WT E k st) : WA E k ops n pr wt fuel listed st :=
  fun _ _ M Z a w hr _ => wpAnyH_done hrd ⟨rfl, fun cs => h M Z a w hr cs⟩ fuel
def ownRd (wt : List Rd) (n : Nat) : Rd → Bool
  | .no => true
  | .cells o j m => decide (n ≤ o) || wt.any (fun r => match r with | .cells o' j' m' => o == o' && (decide (j' ≤ j) && decide (j + m ≤ j' + m')) | _ => false)
  | .dep (some o) => decide (n ≤ o) || wt.any (fun r => match r with | .dep (some o') => o == o' | _ => false)
  | .dep none => false
def Rd.who : Rd → Option (Option Nat)
  | .no => none
  | .cells o _ _ => some (some o)
  | .dep d => some d
theorem rd_own {M : List Pl} {Z : CS} {a : Act} {w : World} (hr : Rel E st M Z a w) {r : Rd} (h : okRd st.H r = true) {k j : Nat} (hs : r.set M Z k j) :
    ∃ d, r.who = some d ∧ zone M Z d k j := by
  cases r with
  | no => exact hs.elim
  | dep d => exact ⟨d, rfl, hs⟩
  | cells o j0 m' =>
    obtain ⟨p, b, f, hp, ha, rfl, h1, h2⟩ := hs
    simp only [okRd] at h
    split at h
    · rename_i cs hHo
      simp only [decide_eq_true_eq] at h
      obtain ⟨b', f', ha', hS, _⟩ := hr.ob o _ p hHo hp
      rw [ha] at ha'; cases ha'
      exact ⟨some o, rfl, p, hp, (hS k j).2 ⟨rfl, by omega, by omega⟩⟩
    · cases h
theorem zone_disj {M : List Pl} {Z : CS} {a : Act} {w : World} (hr : Rel E st M Z a w) {d d' : Option Nat} (hne : d ≠ d') {k j : Nat} (h : zone M Z d k j) (h' : zone M Z d' k j) : False := by
  cases d with
  | none =>
    cases d' with
    | none => exact hne rfl
    | some o => obtain ⟨p, hp, hs⟩ := h'; exact hr.dz o p hp k j hs h
  | some o =>
    obtain ⟨p, hp, hs⟩ := h
    cases d' with
    | none => exact hr.dz o p hp k j hs h'
    | some o' => obtain ⟨p', hp', hs'⟩ := h'; exact hr.dj o o' p p' hp hp' (fun e => hne (by rw [e])) k j hs hs'
theorem apart_disj {M : List Pl} {Z : CS} {a : Act} {w : World} (hr : Rel E st M Z a w) {r r' : Rd} (hap : apartRd r r' = true) (hw : r' ≠ .dep none) (hc : okRd st.H r = true) (hc' : okRd st.H r' = true)
    {k j : Nat} (hs : r.set M Z k j) (hs' : r'.set M Z k j) : False := by
  obtain ⟨d, hd, hz⟩ := rd_own hr hc hs
  obtain ⟨d', hd', hz'⟩ := rd_own hr hc' hs'
  by_cases hne : d = d'
  · subst hne
    cases r with
    | no => exact hs
    | cells o j0 m1 =>
      cases r' with
      | no => exact hs'
      | cells o' j1 m2 =>
        simp only [Rd.who, Option.some.injEq] at hd hd'
        subst hd
        simp only [Option.some.injEq] at hd'
        subst hd'
        obtain ⟨p, b, f, hp, ha, rfl, h1, h2⟩ := hs
        obtain ⟨p', b', f', hp', ha', hk', h1', h2'⟩ := hs'
        rw [hp] at hp'; cases hp'
        rw [ha] at ha'; cases ha'
        simp only [apartRd, bne_self_eq_false, Bool.false_or, Bool.or_eq_true, decide_eq_true_eq] at hap
        omega
      | dep d' =>
        simp only [Rd.who, Option.some.injEq] at hd hd'
        subst hd; subst hd'
        simp [apartRd] at hap
    | dep d0 =>
      simp only [Rd.who, Option.some.injEq] at hd
      subst hd
      cases r' with
      | no => exact hs'
      | cells o' j1 m2 =>
        simp only [Rd.who, Option.some.injEq] at hd'
        subst hd'
        simp [apartRd] at hap
      | dep d' =>
        simp only [Rd.who, Option.some.injEq] at hd'
        subst hd'
        cases d' with
        | none => exact hw rfl
        | some o => simp [apartRd] at hap
  · exact zone_disj hr hne hz hz'
def notZone : Rd → Bool
  | .dep none => false
  | _ => true
theorem WA.start {id : Nat} (pr wt : List Rd) (hm : E.P.follows .mixedOrders = true) (hap : (pr.all fun r => wt.all fun r' => apartRd r r') = true)
    (hok : (pr.all fun r => okRd st.H r) = true) (hwk : (wt.all fun r => okRd st.H r && notZone r) = true)
    (h : WA E k ops st.H.length pr wt ops.size (Array.replicate ops.size false) st) : WT E (.code (.region id ops true) :: k) st := by
  refine .draws hm fun M Z a w hr => ?_
  let X : CS := fun k j => ∃ r, r ∈ wt ∧ r.set M Z k j
  have hw : ∀ r, r ∈ wt → okRd st.H r = true ∧ r ≠ .dep none := fun r hrw => by
    have := List.all_eq_true.1 hwk r hrw
    simp only [Bool.and_eq_true] at this
    refine ⟨this.1, ?_⟩
    rintro rfl
    simp [notZone] at this
  refine ⟨fun w' => Keep w w' X, h w X M Z a w hr ⟨Keep.refl _ _, fun r hrp => ⟨fun k j hs => ?_, ?_⟩, fun r hrw k j hs => .inl ⟨r, hrw, hs⟩, fun o p k j ho hp _ => absurd (List.getElem?_eq_some_iff.1 hp).1 (by have := hr.ml; omega), Nat.le_of_eq hr.ml.symm⟩⟩
  · obtain ⟨d, _, hz⟩ := rd_own hr (List.all_eq_true.1 hok r hrp) hs
    cases d with
    | none => exact hr.zl k j hz
    | some o => obtain ⟨p, hp, hps⟩ := hz; exact hr.lt o p k j hp hps
  · rintro k j ⟨r', hr', hs'⟩ hs
    exact apart_disj hr (List.all_eq_true.1 (List.all_eq_true.1 hap r hrp) r' hr') (hw r' hr').2 (List.all_eq_true.1 hok r hrp) (hw r' hr').1 hs hs'
theorem Hy.step {wr : World} {X : CS} {M M' : List Pl} {Z : CS} {w w' : World} (hy : Hy wr X n pr wt M Z w) {X' : CS} (hk : Keep w w' X') (hX : ∀ k j, X' k j → X k j ∨ fresh wr k j)
    (hM' : MSub M M') (hlen : M.length ≤ M'.length) (hnew : ∀ (i : Nat) (p' : Pl) k j, M'[i]? = some p' → M.length ≤ i → p'.S k j → fresh w k j ∨ X' k j)
    (hpr : pr' ⊆ pr) (hn : ∀ r, r ∈ pr' → ∀ o, r.who = some (some o) → o < n) (hwt : ∀ r, r ∈ wt → ∀ o, r.who = some (some o) → o < n) : Hy wr X n pr' wt M' Z w' := by
  have hM : ∀ (o : Nat) (p' : Pl), M'[o]? = some p' → o < n → ∃ p, M[o]? = some p ∧ p'.av = p.av ∧ ∀ k j, p'.S k j → p.S k j := fun o p' hp' ho => hM' o p' hp' (Nat.lt_of_lt_of_le ho hy.len)
  have hz : ∀ (o : Nat) k j, o < n → zone M' Z (some o) k j → zone M Z (some o) k j := fun o k j ho ⟨p', hp', hs⟩ => by
    obtain ⟨p, hp, _, hS⟩ := hM o p' hp' ho
    exact ⟨p, hp, hS k j hs⟩
  have hset : ∀ r : Rd, (∀ o, r.who = some (some o) → o < n) → ∀ k j, r.set M' Z k j → r.set M Z k j := by
    intro r hro k j hs
    cases r with
    | no => exact hs
    | cells o j0 m =>
      obtain ⟨p', b, f, hp', ha, h1, h2, h3⟩ := hs
      obtain ⟨p, hp, ha', _⟩ := hM o p' hp' (hro o rfl)
      exact ⟨p, b, f, hp, ha' ▸ ha, h1, h2, h3⟩
    | dep d =>
      cases d with
      | none => exact hs
      | some o => exact hz o k j (hro o rfl) hs
  exact
  { keep := hy.keep.trans hk hX
    pr := fun r hr => ⟨fun k j hs => (hy.pr r (hpr hr)).1 k j (hset r (hn r hr) k j hs), fun k j hx hs => (hy.pr r (hpr hr)).2 k j hx (hset r (hn r hr) k j hs)⟩
    wt := fun r hr k j hs => hy.wt r hr k j (hset r (hwt r hr) k j hs)
    new := fun o p' k j ho hp' hs => by
      rcases Nat.lt_or_ge o M.length with hl | hl
      · obtain ⟨p, hp, _, hS⟩ := hM' o p' hp' hl
        exact hy.new o p k j ho hp (hS k j hs)
      · rcases hnew o p' k j hp' hl hs with hf | hx
        · exact .inr (Nat.le_trans hy.keep.size hf)
        · exact hX k j hx
    len := Nat.le_trans hy.len hlen }
def belowRd (n : Nat) (r : Rd) : Bool := match r.who with | some (some o) => decide (o < n) | _ => true
theorem below_spec {rs : List Rd} {m : Nat} (h : rs.all (belowRd m) = true) : ∀ r, r ∈ rs → ∀ o, r.who = some (some o) → o < m := by
  intro r hr o ho
  have := List.all_eq_true.1 h r hr
  simpa [belowRd, ho] using this
theorem ownRd_spec {wr : World} {X : CS} {M : List Pl} {Z : CS} {w : World} (hy : Hy wr X n pr wt M Z w) {r : Rd} (h : ownRd wt n r = true)
    (hwho : ∀ k j, r.set M Z k j → ∃ d, r.who = some d ∧ zone M Z d k j) : ∀ k j, r.set M Z k j → X k j ∨ fresh wr k j := by
  intro k j hs
  cases r with
  | no => exact hs.elim
  | cells o j0 m =>
    simp only [ownRd, Bool.or_eq_true, decide_eq_true_eq, List.any_eq_true] at h
    rcases h with hn | ⟨r', hr', hr''⟩
    · obtain ⟨d, hd, hz⟩ := hwho k j hs
      simp only [Rd.who, Option.some.injEq] at hd
      subst hd
      obtain ⟨p, hp, hps⟩ := hz
      exact hy.new o p k j hn hp hps
    · split at hr''
      · rename_i o' j' m'
        simp only [Bool.and_eq_true, beq_iff_eq, decide_eq_true_eq] at hr''
        obtain ⟨rfl, h1, h2⟩ := hr''
        obtain ⟨p, b, f, hp, ha, hk, h3, h4⟩ := hs
        exact hy.wt _ hr' k j ⟨p, b, f, hp, ha, hk, by omega, by omega⟩
      · cases hr''
  | dep d =>
    cases d with
    | none => simp [ownRd] at h
    | some o =>
      simp only [ownRd, Bool.or_eq_true, decide_eq_true_eq, List.any_eq_true] at h
      rcases h with hn | ⟨r', hr', hr''⟩
      · obtain ⟨p, hp, hps⟩ := hs
        exact hy.new o p k j hn hp hps
      · split at hr''
        · rename_i o'
          simp only [beq_iff_eq] at hr''
          subst hr''
          exact hy.wt _ hr' k j hs
        · cases hr''
theorem WO.mem {i : Nat} {o : Oper} (ho : ops[i]? = some o) (hg : guardOk ops st.T o = some true) {wit : Option Wit} {r : MRes} (hv : evOp E.P st wit o = some r) (hc : met r.c)
    (hown : (ownRd wt n r.md && okRd st.H r.md) = true) (hb : (pr.all (belowRd n) && wt.all (belowRd n)) = true)
    {st' : St} (hp : put1 E.nt o r = some st') (hl : st.H.length ≤ st'.H.length) (h : WA E k ops n pr wt fuel (listed.setIfInBounds i true) st') : WO E k ops n pr wt fuel listed st i := by
  simp only [Bool.and_eq_true] at hown hb
  refine .wp ho hg fun wr X M Z a w hr hy => ?_
  refine (evOp_ok hr hv hc).wp hp fun M' a' w' hr' hm hn hk => ?_
  have hX := ownRd_spec hy hown.1 fun k j hs => rd_own hr hown.2 hs
  have hy' := hy.step hk hX hm (by rw [hr.ml, hr'.ml]; exact hl) hn (List.Subset.refl _) (below_spec hb.1) (below_spec hb.2)
  exact ⟨hy'.keep, h wr X M' Z a' w' hr' hy'⟩
def takeStep (P : Program) (nt : Nat) (ops : Array Oper) (pr : List Rd) (listed : Array Bool) (ws : List Wit) (st : St) (i : Nat) : Option (St × List Prop × List Wit) :=
  if Region.free .any ops listed i then
    match ops[i]? with
    | none => none
    | some o => match guardOk ops st.T o with
      | none => none
      | some false => (skipOp nt o st).map fun st' => (st', [], ws)
      | some true => match evV P st (if takesWit o.op then ws.head? else none) o with
        | none => none
        | some r => if calmRd pr r.rd then (put1 nt o ⟨some r.y, st, r.c, .no⟩).map fun st' => (st', r.c.toList, if takesWit o.op then ws.tail else ws) else none
  else none
def memStep (P : Program) (nt : Nat) (ops : Array Oper) (n : Nat) (wt : List Rd) (ws : List Wit) (st : St) (i : Nat) : Option (St × List Prop × List Wit) :=
  match ops[i]? with
  | none => none
  | some o => match guardOk ops st.T o with
    | some true => match evOp P st (if takesWit o.op then ws.head? else none) o with
      | some r => if ownRd wt n r.md && okRd st.H r.md then
          match put1 nt o r with
          | some st' => if st.H.length ≤ st'.H.length then some (st', r.c.toList, if takesWit o.op then ws.tail else ws) else none
          | none => none
        else none
      | none => none
    | some false => (skipOp nt o st).map fun st' => (st', [], ws)
    | none => none
def runA (P : Program) (nt : Nat) (ops : Array Oper) (n : Nat) (pr wt : List Rd) : Nat → Nat → Array Bool → List Wit → List Prop → St → Option (Nat × Array Bool × St × List Prop × List Wit)
  | 0, fuel, l, ws, cs, st => some (fuel, l, st, cs, ws)
  | _ + 1, 0, l, ws, cs, st => some (0, l, st, cs, ws)
  | k + 1, fuel + 1, l, ws, cs, st =>
    match (Region.ready .any ops l).findSome? fun i => (takeStep P nt ops pr l ws st i).map fun r => (i, r) with
    | some (i, st', c, ws') => runA P nt ops n pr wt k fuel (l.setIfInBounds i true) ws' (cs ++ c) st'
    | none => match Region.ready .any ops l with
      | [i] => match memStep P nt ops n wt ws st i with
        | some (st', c, ws') => runA P nt ops n pr wt k fuel (l.setIfInBounds i true) ws' (cs ++ c) st'
        | none => some (fuel + 1, l, st, cs, ws)
      | _ => some (fuel + 1, l, st, cs, ws)
theorem takeStep_spec (hs : Region.noSelect ops = true) {ws ws' : List Wit} {i : Nat} {st' : St} {cs : List Prop} (hrd : i ∈ Region.ready .any ops listed)
    (h : takeStep E.P E.nt ops pr listed ws st i = some (st', cs, ws')) (hc : AllP cs) (hw : WA E k ops n pr wt fuel (listed.setIfInBounds i true) st') : WA E k ops n pr wt (fuel + 1) listed st := by
  unfold takeStep at h
  split at h
  · rename_i hf
    split at h
    · cases h
    · rename_i o ho
      split at h
      · cases h
      · rename_i hg
        simp only [Option.map_eq_some_iff, Prod.mk.injEq] at h
        obtain ⟨st1, hp, rfl, _, _⟩ := h
        exact .skip ho hs hf (by simpa using hrd) hg hp hw
      · rename_i hg
        split at h
        · cases h
        · rename_i r hv
          split at h
          · rename_i hcalm
            simp only [Option.map_eq_some_iff, Prod.mk.injEq] at h
            obtain ⟨st1, hp, rfl, rfl, _⟩ := h
            refine .take ho hs hf (by simpa using hrd) hg hv ?_ hcalm hp hw
            cases hrc : r.c with
            | none => trivial
            | some c => rw [hrc] at hc; exact hc.1
          · cases h
  · cases h
theorem memStep_spec {i : Nat} {ws ws' : List Wit} {st' : St} {cs : List Prop} (h : memStep E.P E.nt ops n wt ws st i = some (st', cs, ws')) (hc : AllP cs) (hb : (pr.all (belowRd n) && wt.all (belowRd n)) = true)
    (hw : WA E k ops n pr wt fuel (listed.setIfInBounds i true) st') : WO E k ops n pr wt fuel listed st i := by
  unfold memStep at h
  split at h
  · cases h
  · rename_i o ho
    split at h
    · rename_i hg
      split at h
      · rename_i r hv
        split at h
        · rename_i hown
          split at h
          · rename_i st1 hp
            split at h
            · rename_i hl
              simp only [Option.some.injEq, Prod.mk.injEq] at h
              obtain ⟨rfl, rfl, _⟩ := h
              refine .mem ho hg hv ?_ hown hb hp hl hw
              cases hrc : r.c with
              | none => trivial
              | some c => rw [hrc] at hc; exact hc.1
            · cases h
          · cases h
        · cases h
      · cases h
    · rename_i hg
      simp only [Option.map_eq_some_iff, Prod.mk.injEq] at h
      obtain ⟨st1, hp, rfl, _, _⟩ := h
      exact .skip ho hg hp hw
    · cases h
theorem runA_conds {P : Program} {nt : Nat} : ∀ {m fuel fuel' : Nat} {l l' : Array Bool} {ws ws' : List Wit} {cs0 cs : List Prop} {st st' : St},
    runA P nt ops n pr wt m fuel l ws cs0 st = some (fuel', l', st', cs, ws') → AllP cs → AllP cs0
  | 0, _, _, _, _, _, _, _, _, _, _, h, hc => by
    simp only [runA, Option.some.injEq, Prod.mk.injEq] at h
    obtain ⟨_, _, _, rfl, _⟩ := h
    exact hc
  | _ + 1, 0, _, _, _, _, _, _, _, _, _, h, hc => by
    simp only [runA, Option.some.injEq, Prod.mk.injEq] at h
    obtain ⟨_, _, _, rfl, _⟩ := h
    exact hc
  | m + 1, fuel + 1, _, _, _, _, _, _, _, _, _, h, hc => by
    simp only [runA] at h
    split at h
    · exact (AllP_append.1 (runA_conds h hc)).1
    · split at h
      · split at h
        · exact (AllP_append.1 (runA_conds h hc)).1
        · simp only [Option.some.injEq, Prod.mk.injEq] at h
          obtain ⟨_, _, _, rfl, _⟩ := h
          exact hc
      · simp only [Option.some.injEq, Prod.mk.injEq] at h
        obtain ⟨_, _, _, rfl, _⟩ := h
        exact hc
theorem WA.run (hs : Region.noSelect ops = true) (hb : (pr.all (belowRd n) && wt.all (belowRd n)) = true) : ∀ (m : Nat) {fuel fuel' : Nat} {l l' : Array Bool} {ws ws' : List Wit} {cs0 cs : List Prop} {st st' : St},
    runA E.P E.nt ops n pr wt m fuel l ws cs0 st = some (fuel', l', st', cs, ws') → AllP cs → WA E k ops n pr wt fuel' l' st' → WA E k ops n pr wt fuel l st
  | 0, _, _, _, _, _, _, _, _, _, _, h, _, hw => by
    simp only [runA, Option.some.injEq, Prod.mk.injEq] at h
    obtain ⟨rfl, rfl, rfl, _, _⟩ := h
    exact hw
  | _ + 1, 0, _, _, _, _, _, _, _, _, _, h, _, hw => by
    simp only [runA, Option.some.injEq, Prod.mk.injEq] at h
    obtain ⟨rfl, rfl, rfl, _, _⟩ := h
    exact hw
  | m + 1, fuel + 1, _, _, _, _, _, _, _, _, _, h, hc, hw => by
    simp only [runA] at h
    split at h
    · rename_i i st1 c ws1 hf
      obtain ⟨i', hi', hm⟩ := List.exists_of_findSome?_eq_some hf
      simp only [Option.map_eq_some_iff, Prod.mk.injEq] at hm
      obtain ⟨r, hr, rfl, rfl⟩ := hm
      exact takeStep_spec hs hi' hr (AllP_append.1 (runA_conds h hc)).2 (WA.run hs hb m h hc hw)
    · split at h
      · rename_i i hrd
        split at h
        · rename_i st1 c ws1 hm
          exact .one i hrd (memStep_spec hm (AllP_append.1 (runA_conds h hc)).2 hb (WA.run hs hb m h hc hw))
        · simp only [Option.some.injEq, Prod.mk.injEq] at h
          obtain ⟨rfl, rfl, rfl, _, _⟩ := h
          exact hw
      · simp only [Option.some.injEq, Prod.mk.injEq] at h
        obtain ⟨rfl, rfl, rfl, _, _⟩ := h
        exact hw
end
end Go.Proofs.YtmbbapeiikifgaaGreatDoor
