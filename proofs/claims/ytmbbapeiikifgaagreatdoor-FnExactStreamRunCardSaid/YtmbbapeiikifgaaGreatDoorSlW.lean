/- From a row's arguments to symbolic values: what is read of an argument is data of a type; behind a call that owned nothing the old memory is as it was. -/
import Derived.Test.YtmbbapeiikifgaaGreatDoorSlN
import Derived.Carry
import Derived.Deep.Slices
import Derived.ChangeSame
namespace Go.Proofs.YtmbbapeiikifgaaGreatDoor
open Go
mutual
def isTy (P : Program) : Nat → Ty → TypeId → Bool
  | 0, _, _ => false
  | n + 1, ty, t => match P.underlying t with
    | some (.int k) => (match ty with | .int k' => decide (k = k') | _ => false)
    | some .bool => (match ty with | .bool => true | _ => false)
    | some .string => (match ty with | .str => true | _ => false)
    | some (.slice e) => (match ty with | .own u => isTy P n u e && decide (P.cellsOf e = u.sz) | _ => false)
    | some (.struct fs) => decide (P.cellsOf t = ty.sz) && isFs P n ty fs.toList 0
    | _ => false
def isFs (P : Program) : Nat → Ty → List Field → Nat → Bool
  | 0, _, _, _ => false
  | _ + 1, _, [], _ => false
  | n + 1, ty, [f], off => decide (f.offset = off) && (isTy P n ty f.type && decide (P.cellsOf f.type = ty.sz))
  | n + 1, ty, f :: g :: fs, off => (match ty with
    | .pair a b => decide (f.offset = off) && (isTy P n a f.type && (decide (P.cellsOf f.type = a.sz) && isFs P n b (g :: fs) (off + a.sz)))
    | _ => false)
end
def cv : (ty : Ty) → ty.T → List C
  | .int k, x => [.int k x]
  | .bool, x => [.bool x]
  | .str, x => [.str x]
  | .pair a b, x => cv a x.1 ++ cv b x.2
  | .own t, xs => [.vw none t xs]
def sm : (ty : Ty) → ty.T → Prop
  | .int k, x => (Lit.int k x).wf = true
  | .bool, _ => True
  | .str, x => x.size ≤ 9223372036854775807
  | .pair a b, x => sm a x.1 ∧ sm b x.2
  | .own t, xs => xs.length ≤ 9223372036854775807 ∧ ∀ x ∈ xs, sm t x
def zoneOf (w : World) : CS := fun k _ => k < w.heap.size
theorem cell_zone {w : World} {b o : Nat} {v : Value} (h : w.cell? ⟨b, o, none⟩ = some v) : zoneOf w b o := by
  unfold World.cell? at h
  show b < w.heap.size
  rcases Nat.lt_or_ge b w.heap.size with hb | hb
  · exact hb
  · rw [Array.getElem?_eq_none hb] at h; cases h
theorem cell_spot {w : World} {a : Addr} {v : Value} (h : w.cell? a = some v) : a = ⟨a.block, a.off, none⟩ := by
  unfold World.cell? at h
  cases a with
  | mk b o s =>
    cases s with
    | none => rfl
    | some q =>
      simp only [] at h
      split at h <;> simp at h
theorem csRel_append {M : List Pl} {Z : CS} {w : World} : ∀ {xs ys : List C} {us vs : List Value}, CsRel M Z w xs us → CsRel M Z w ys vs → CsRel M Z w (xs ++ ys) (us ++ vs)
  | [], _, _, _, h, k => by cases (show _ = [] from h); exact k
  | x :: xs, _, _, _, ⟨v, r, e, h1, h2⟩, k => by subst e; exact ⟨v, r ++ _, rfl, h1, csRel_append h2 k⟩
theorem list_of {α : Type} : ∀ (n : Nat) (Q : Nat → α → Prop), (∀ i, i < n → ∃ y, Q i y) → ∃ xs : List α, xs.length = n ∧ ∀ (i : Nat) y, xs[i]? = some y → Q i y
  | 0, _, _ => ⟨[], rfl, fun i y h => by simp at h⟩
  | n + 1, Q, h => by
    obtain ⟨xs, h1, h2⟩ := list_of n Q (fun i hi => h i (by omega))
    obtain ⟨y, hy⟩ := h n (by omega)
    refine ⟨xs ++ [y], by simp [h1], fun i z hz => ?_⟩
    rw [List.getElem?_append] at hz
    split at hz
    · exact h2 i z hz
    · have hi : i - xs.length = 0 := by
        rcases Nat.eq_zero_or_pos (i - xs.length) with h | h
        · exact h
        · rw [List.getElem?_eq_none (by simp; omega)] at hz; cases hz
      rw [hi] at hz
      simp at hz; subst hz
      have : i = n := by omega
      rw [this]; exact hy
section
variable {H : Type} {enc : TypeId × Value → H} {P : Program} {w : World} {base : Nat} {spare : Nat → Bool} {held : Bool}
def Gives (w : World) (ty : Ty) (cs : List Value) : Prop :=
  ∃ y : ty.T, sm ty y ∧ cs.length = ty.sz ∧ CsRel [] (zoneOf w) w (cv ty y) cs ∧
    ∀ b o, (∀ (i : Nat) v, cs[i]? = some v → w.cell? ⟨b, o + i, none⟩ = some v) → ElemRd (zoneOf w) w ty y b o
theorem gives_ty : ∀ n : Nat,
    (∀ (ty : Ty) (t : TypeId) (fuel : Nat) (cs : List Value) (x : DataW H × List MemPlace), isTy P n ty t = true → DataW.trod enc P w base spare held fuel t cs = some x → Gives w ty cs) ∧
    (∀ (ty : Ty) (fs : List Field) (off fuel : Nat) (cs : List Value), isFs P n ty fs off = true → (∀ f ∈ fs, ∃ x, DataW.trod enc P w base spare held fuel f.type ((cs.drop f.offset).take (P.cellsOf f.type)) = some x) → cs.length = off + ty.sz → Gives w ty (cs.drop off))
  | 0 => ⟨fun ty t fuel cs x h => by simp [isTy] at h, fun ty fs off fuel cs h => by simp [isFs] at h⟩
  | n + 1 => by
    have ih := gives_ty n
    refine ⟨fun ty t fuel cs x h hx => ?_, fun ty fs off fuel cs h hf hl => ?_⟩
    · unfold isTy at h
      split at h
      · rename_i k ht
        cases ty <;> simp at h
        subst h
        obtain ⟨m, rfl, _, hw⟩ := DataW.trod_int ht hx
        exact ⟨m, hw, rfl, ⟨_, _, rfl, rfl, rfl⟩, fun b o hc => ⟨hc 0 _ rfl, cell_zone (hc 0 _ rfl)⟩⟩
      · rename_i ht
        cases ty <;> simp at h
        obtain ⟨m, rfl, _⟩ := DataW.trod_bool ht hx
        exact ⟨m, trivial, rfl, ⟨_, _, rfl, rfl, rfl⟩, fun b o hc => ⟨hc 0 _ rfl, cell_zone (hc 0 _ rfl)⟩⟩
      · rename_i ht
        cases ty <;> simp at h
        obtain ⟨m, rfl, _, hm⟩ := DataW.trod_string ht hx
        exact ⟨m, hm, rfl, ⟨_, _, rfl, rfl, rfl⟩, fun b o hc => ⟨hc 0 _ rfl, cell_zone (hc 0 _ rfl)⟩⟩
      · rename_i e ht
        cases ty <;> simp at h
        rename_i u
        obtain ⟨he, hsz⟩ := h
        have key : ∃ xs : List u.T, (xs.length ≤ 9223372036854775807 ∧ ∀ x ∈ xs, sm u x) ∧ ∃ v, cs = [v] ∧ SlRd (zoneOf w) w u xs v := by
          rcases Deep.open_slice ht hx with ⟨rfl, _⟩ | ⟨a, len, cap, m, fu, D, Pl, rfl, _, hlc, hcap, hm, _, hel⟩
          · exact ⟨[], ⟨by simp, by simp⟩, _, rfl, none, 0, rfl, Nat.le_refl _, .inl rfl⟩
          · have hml : len ≤ m := by rw [hm]; split <;> omega
            have hg : ∀ i, i < len → ∃ cs', w.cells? base (a.add (i * u.sz)) u.sz = some cs' ∧ Gives w u cs' := fun i hi => by
              obtain ⟨cs', h1, h2⟩ := hel i (by omega)
              rw [hsz] at h1
              exact ⟨cs', h1, ih.1 u e fu cs' _ he h2⟩
            have hy : ∀ i, i < len → ∃ y : u.T, sm u y ∧ ∃ cs', w.cells? base (a.add (i * u.sz)) u.sz = some cs' ∧ (∀ b o, (∀ (i : Nat) v, cs'[i]? = some v → w.cell? ⟨b, o + i, none⟩ = some v) → ElemRd (zoneOf w) w u y b o) := fun i hi => by
              obtain ⟨cs', h1, y, hs, _, _, hr⟩ := hg i hi
              exact ⟨y, hs, cs', h1, hr⟩
            obtain ⟨xs, hxl, hxs⟩ : ∃ xs : List u.T, xs.length = len ∧ ∀ (i : Nat) y, xs[i]? = some y → sm u y ∧ ∃ cs', w.cells? base (a.add (i * u.sz)) u.sz = some cs' ∧ (∀ b o, (∀ (i : Nat) v, cs'[i]? = some v → w.cell? ⟨b, o + i, none⟩ = some v) → ElemRd (zoneOf w) w u y b o) := by
              exact list_of len _ hy
            refine ⟨xs, ⟨by rw [hxl]; have : maxLen = 9223372036854775807 := rfl; omega, fun y hy => ?_⟩, _, rfl, some a, cap, by rw [hxl], by omega, ?_⟩
            · obtain ⟨i, hi, e⟩ := List.getElem_of_mem hy
              exact (hxs i y (by rw [List.getElem?_eq_getElem hi, e])).1
            · by_cases h0 : xs = []
              · exact .inl h0
              · have hpos : 0 < xs.length := List.length_pos_iff.2 h0
                have hsp : a = ⟨a.block, a.off, none⟩ := by
                  obtain ⟨_, cs', h1, _⟩ := hxs 0 xs[0] (List.getElem?_eq_getElem hpos)
                  obtain ⟨_, hl, hc⟩ := World.cells?_some h1
                  have := hc 0 u.sz_pos
                  have hp : 0 < cs'.length := by rw [hl]; exact u.sz_pos
                  rw [Nat.zero_mul, List.getElem?_eq_getElem hp] at this
                  exact cell_spot (by simpa [Addr.add] using this)
                refine .inr ⟨a.block, a.off, by rw [← hsp], fun i y hy => ?_⟩
                obtain ⟨_, cs', h1, hr⟩ := hxs i y hy
                refine hr _ _ fun j v hv => ?_
                obtain ⟨_, hl, hc⟩ := World.cells?_some h1
                have hj : j < u.sz := by rw [← hl]; exact (List.getElem?_eq_some_iff.1 hv).1
                have := hc j hj
                rw [hv, hsp] at this
                rw [← this]
                congr 1
                unfold Addr.add
                by_cases z1 : i * u.sz = 0 <;> by_cases z2 : j = 0 <;> simp [z1, z2, Nat.add_assoc]
        obtain ⟨xs, hs, v, rfl, hv⟩ := key
        refine ⟨xs, hs, rfl, ⟨v, [], rfl, hv, rfl⟩, fun b o hc => ?_⟩
        have hcell := hc 0 v rfl
        obtain ⟨av, cap, rfl, h1, h2⟩ := hv
        exact ⟨av, cap, hcell, cell_zone hcell, h1, h2⟩
      · rename_i fs ht
        simp only [Bool.and_eq_true, decide_eq_true_eq] at h
        obtain ⟨xs, m, _, _, hlen, hxl, hfs⟩ := DataW.trod_struct ht hx
        have := ih.2 ty fs.toList 0 m cs h.2 (fun f hf => by
          obtain ⟨i, hi, rfl⟩ := List.getElem_of_mem hf
          have hi' : i < fs.size := by simpa using hi
          have := hfs i _ (by rw [Array.getElem?_eq_getElem hi'])
          refine ⟨xs[i]'(by omega), ?_⟩
          simpa [List.getElem?_eq_getElem (show i < xs.length by omega)] using this) (by rw [hlen, h.1]; simp)
        simpa using this
      · cases h
    · match fs, h with
      | [], h => simp [isFs] at h
      | [f], h =>
        simp only [isFs, Bool.and_eq_true, decide_eq_true_eq] at h
        obtain ⟨ho, ht, hs⟩ := h
        obtain ⟨x, hx⟩ := hf f (by simp)
        rw [ho, hs] at hx
        have e : (cs.drop off).take ty.sz = cs.drop off := List.take_of_length_le (by simp; omega)
        rw [e] at hx
        exact ih.1 ty f.type fuel _ x ht hx
      | f :: g :: fs, h =>
        cases ty with
        | pair a b =>
          simp only [isFs] at h
          simp only [Bool.and_eq_true, decide_eq_true_eq] at h
          obtain ⟨ho, ht, hs, hr⟩ := h
          obtain ⟨x, hx⟩ := hf f (by simp)
          rw [ho, hs] at hx
          have hsz : (Ty.pair a b).sz = a.sz + b.sz := rfl
          rw [hsz] at hl
          obtain ⟨y1, s1, l1, c1, r1⟩ := ih.1 a f.type fuel _ x ht hx
          obtain ⟨y2, s2, l2, c2, r2⟩ := ih.2 b (g :: fs) (off + a.sz) fuel cs hr (fun f' hf' => hf f' (List.mem_cons_of_mem _ hf')) (by omega)
          refine ⟨(y1, y2), ⟨s1, s2⟩, by simp [hsz]; omega, ?_, fun bl o hc => ⟨r1 bl o fun i v hv => ?_, r2 bl (o + a.sz) fun i v hv => ?_⟩⟩
          · have := csRel_append c1 c2
            rwa [← List.drop_drop, List.take_append_drop] at this
          · refine hc i v ?_
            have hi : i < a.sz := by rw [← l1]; exact (List.getElem?_eq_some_iff.1 hv).1
            rwa [List.getElem?_take_of_lt hi] at hv
          · rw [Nat.add_assoc]
            refine hc (a.sz + i) v ?_
            rw [← List.drop_drop, List.getElem?_drop] at hv
            exact hv
        | _ => simp [isFs] at h
theorem open_arg {t : TypeId} {ty : Ty} {n : Nat} {fs : Array Field} {v : Value} {d : DataW H} {ps : List MemPlace} (ht : P.underlying t = some (.struct fs)) (hty : isTy P n ty t = true)
    {r : Reach} {b0 : Nat} (hval : Value.okWide P w r b0 t v) (h : DataW.Trod enc P w base spare held t v d ps) :
    ∃ y : ty.T, sm ty y ∧ ARel [] (zoneOf w) w (.p (.agg (cv ty y))) v := by
  obtain ⟨fuel, hf⟩ := h
  obtain ⟨y, hs, _, hc, _⟩ := (gives_ty n).1 ty t fuel _ _ hty hf
  unfold Value.okWide at hval
  rw [ht] at hval
  obtain ⟨cs, rfl, _⟩ := hval
  exact ⟨y, hs, cs.toList, by simp, by simpa [Value.cells] using hc⟩
end
theorem below_of_fin {w w' : World} {Z Z' : CS} {r : AV} {H' : List Ob} {v : Value} {M' : List Pl} (h : Fin [] Z w r H' v M' Z' w') : RowKit.Below w.heap.size w w' := by
  refine ⟨h.kp.os, h.kp.tape, h.kp.output, h.kp.size, fun k hk => ?_⟩
  have hn : ∀ j, ¬ allS [] k j := fun j ⟨i, p, hp, _⟩ => by simp at hp
  rcases h.kp.blk k hk with h | ⟨c, c', e, fr, h1, h2, h3, h4⟩ | ⟨_, _, _, _, _, _, h3⟩ | ⟨_, _, _, _, _, _, _, _, h4⟩
  · exact h
  · rw [h1, h2]
    congr 2
    exact Array.ext_getElem? fun j => h4 j (hn j)
  · exact absurd h3 (hn 0)
  · exact absurd (h4 0) (hn 0)
end Go.Proofs.YtmbbapeiikifgaaGreatDoor
