/- Plain laws, fifth part: recipes are read alike. -/
import Derived.Test.YtmbbapeiikifgaaGreatDoorPd
set_option linter.all false
namespace Go.Proofs.YtmbbapeiikifgaaGreatDoor
open Go
abbrev optsR : ByteArray := ⟨#[64, 60, 62, 33, 111, 120]⟩
theorem one_L (k : Nat) (c : Int) (s : ByteArray) (hs : s.size ≤ 3000000) (e : Unit → Option Bool) (he : e () = some false) : ∀ (n i : Nat), s.size - i < n → F_impl_isOneOf_L2 k c s e n (i : Int) = some ((s.data.toList.drop i).any (fun b => decide ((b.toNat : Int) = c)))
  | 0, i, h => absurd h (by omega)
  | n + 1, i, h => by
    unfold F_impl_isOneOf_L2
    by_cases hl : i < s.size
    · have hl' : i < s.data.toList.length := by rw [size_eq]; exact hl
      rw [dlt hl, cond_true, if_pos (by omega), bt_eq s i hl', w64_succ (by omega), one_L k c s hs e he n (i + 1) (by omega), List.drop_eq_getElem_cons hl', beqI, List.any_cons]
      cases decide ((s.data.toList[i].toNat : Int) = c) <;> rfl
    · rw [dge hl, cond_false, he, List.drop_eq_nil_of_le (by rw [size_eq]; omega)]; rfl
theorem one_eq {k : Nat} (hk : K0 ≤ k) (c : Int) (s : ByteArray) (hs : s.size ≤ 3000000) : F_impl_isOneOf k c s = some (s.data.toList.any (fun b => decide ((b.toNat : Int) = c))) := by
  unfold F_impl_isOneOf
  exact one_L k c s hs (F_impl_isOneOf_J1 k) rfl k 0 (by simp only [K0] at hk; omega)
theorem fail0 (k : Nat) (a1 a2 : Int) (s : ByteArray) (a4 : Int) (o : ByteArray) (ks : List Int) (p : List Nd) : F_impl_reader_fail_8d05 k a1 a2 s a4 0 o ks p = some (a2, a1) := rfl
theorem fail1 (k : Nat) (a1 a2 : Int) (s : ByteArray) (a4 : Int) {e : Int} (he : e ≠ 0) (o : ByteArray) (ks : List Int) (p : List Nd) : F_impl_reader_fail_8d05 k a1 a2 s a4 e o ks p = some (a4, e) := by
  unfold F_impl_reader_fail_8d05 F_impl_reader_fail_8d05_J1
  rw [beqI, decide_eq_false he]; rfl
theorem take0 (k : Nat) (c : Int) (s : ByteArray) (pos : Int) (o : ByteArray) (ks : List Int) (p : List Nd) : F_impl_reader_take_32e8 k c s pos 0 o ks p = F_spec_l4Want k s pos c := by
  unfold F_impl_reader_take_32e8 F_spec_l4Want
  simp only [fail0, Option.bind_some]
  rfl
theorem take1 (k : Nat) (c : Int) (s : ByteArray) (pos : Int) {e : Int} (he : e ≠ 0) (o : ByteArray) (ks : List Int) (p : List Nd) : F_impl_reader_take_32e8 k c s pos e o ks p = some (pos, e) := by
  unfold F_impl_reader_take_32e8
  rw [bneI, decide_eq_false he]; rfl
theorem want_eq (k : Nat) (s : ByteArray) (hs : s.size ≤ 3000000) (pos : Nat) (c : Int) (hp : pos ≤ s.size) : ∃ r, F_spec_l4Want k s (pos : Int) c = some r ∧ ((r = (((pos + 1 : Nat) : Int), 0) ∧ pos < s.size) ∨ r.2 ≠ 0) := by
  unfold F_spec_l4Want
  by_cases h : pos < s.size
  · rw [decide_eq_false (by omega), cond_false, if_pos (by omega), bneI]
    by_cases hc : bt s (pos : Int) = c
    · rw [decide_eq_true hc, Bool.not_true, cond_false, w64_succ (by omega)]; exact ⟨_, rfl, .inl ⟨rfl, h⟩⟩
    · rw [decide_eq_false hc, Bool.not_false, cond_true]; exact ⟨_, rfl, .inr (show (3 : Int) ≠ 0 by decide)⟩
  · rw [decide_eq_true (by omega), cond_true]; exact ⟨_, rfl, .inr (show (2 : Int) ≠ 0 by decide)⟩
def SameR (s : ByteArray) (p : List Nd) (pos : Nat) (R : List Nd × Int × Int × Int) (R' : Int × Int × Int × List Nd) : Prop :=
  (∃ (P : List Nd) (v : Int) (e : Nat), R = (P, v, (e : Int), 0) ∧ R' = (v, (e : Int), 0, P) ∧ Good P ∧ p.length ≤ P.length ∧ hasB P v = true ∧ pos < e ∧ e ≤ s.size) ∨ (R.2.2.2 ≠ 0 ∧ R'.2.2.1 ≠ 0)
def SameT (s : ByteArray) (p : List Nd) (pos : Nat) (T : List Nd × Int × Int × Int × Int) (T' : Int × Int × List Int × List Nd) : Prop :=
  (∃ (P : List Nd) (v w : Int) (e : Nat), T = (P, v, w, (e : Int), 0) ∧ T' = ((e : Int), 0, [v, w], P) ∧ Good P ∧ p.length ≤ P.length ∧ hasB P v = true ∧ hasB P w = true ∧ pos < e ∧ e ≤ s.size) ∨ (T.2.2.2.2 ≠ 0 ∧ T'.2.1 ≠ 0)
abbrev QS := List Nd → List Int → ByteArray → Int → Option (List Nd × Int × Int × Int)
abbrev QI := ByteArray → Int → Int → ByteArray → List Int → List Nd → Option (Int × Int × Int × List Nd)
structure QQ (q : QS) (q' : QI) (s : ByteArray) (ks : List Int) (p : List Nd) (pos0 : Nat) : Prop where
  good : ∀ (pos : Nat) (P : List Nd), pos0 ≤ pos → pos ≤ s.size → Good P → p.length ≤ P.length → ∃ R R', q P ks s (pos : Int) = some R ∧ q' s (pos : Int) 0 optsR ks P = some R' ∧ SameR s P pos R R'
  bad : ∀ (pos e : Int) (P : List Nd), e ≠ 0 → q' s pos e optsR ks P = some (-1, pos, e, P)
theorem deq0 {e : Int} (h : e ≠ 0) : (e == 0) = false := by rw [beqI, decide_eq_false h]
theorem dne0 {e : Int} (h : e ≠ 0) : (e != 0) = true := by rw [bneI, decide_eq_false h]; rfl
theorem two_bad {k : Nat} {q : QS} {q' : QI} {s : ByteArray} {ks : List Int} {p : List Nd} {pos0 : Nat} (h : QQ q q' s ks p pos0) (c : Int) (pos e : Int) (P : List Nd) (he : e ≠ 0) :
    F_impl_reader_two_32e8 k q' c s pos e optsR ks P = some (pos, e, [-1, -1], P) := by
  unfold F_impl_reader_two_32e8
  rw [h.bad _ _ _ he]
  simp only [Option.bind_some, take1 _ _ _ _ he, h.bad _ _ _ he]
theorem two_eq {k : Nat} {q : QS} {q' : QI} {s : ByteArray} (hs : s.size ≤ 3000000) {ks : List Int} {p : List Nd} {pos0 : Nat} (h : QQ q q' s ks p pos0) (c : Int) (pos : Nat) (h0 : pos0 ≤ pos) (hp : pos ≤ s.size) (hg : Good p) :
    ∃ T T', F_spec_l10Two k q p ks s (pos : Int) false c = some T ∧ F_impl_reader_two_32e8 k q' c s (pos : Int) 0 optsR ks p = some T' ∧ SameT s p pos T T' := by
  obtain ⟨R, R', e1, e2, hR⟩ := h.good pos p h0 hp hg (Nat.le_refl _)
  unfold F_spec_l10Two F_spec_l10Two_J1 F_spec_l10Two_J4 F_spec_l10Two_J7 F_spec_l10Two_J10 F_spec_l10Two_J13 F_impl_reader_two_32e8
  simp only [cond_false, beq_self_eq_true, cond_true, e1, e2, Option.bind_some]
  rcases hR with ⟨P, v, e, rfl, rfl, g1, l1, b1, hpe, hes⟩ | ⟨hE, hE'⟩
  rotate_left
  · simp only [deq0 hE, cond_false, take1 _ _ _ _ hE', Option.bind_some, h.bad _ _ _ hE']
    exact ⟨_, _, rfl, rfl, .inr ⟨hE, hE'⟩⟩
  simp only [beq_self_eq_true, cond_true, take0]
  obtain ⟨r, er, hr⟩ := want_eq k s hs e 44 hes
  rw [er]
  simp only [Option.bind_some]
  rcases hr with ⟨rfl, hes2⟩ | hE
  rotate_left
  · simp only [deq0 hE, cond_false, Option.bind_some, h.bad _ _ _ hE, take1 _ _ _ _ hE]
    exact ⟨_, _, rfl, rfl, .inr ⟨hE, hE⟩⟩
  obtain ⟨R, R', q1, q2, hR⟩ := h.good (e + 1) P (by omega) hes2 g1 l1
  simp only [beq_self_eq_true, cond_true, q1, q2, Option.bind_some]
  rcases hR with ⟨P2, v2, e2, rfl, rfl, g2, l2, b2, hpe2, hes3⟩ | ⟨hE, hE'⟩
  rotate_left
  · simp only [deq0 hE, cond_false, take1 _ _ _ _ hE', Option.bind_some]
    exact ⟨_, _, rfl, rfl, .inr ⟨hE, hE'⟩⟩
  simp only [beq_self_eq_true, cond_true, take0]
  obtain ⟨r, er, hr⟩ := want_eq k s hs e2 c hes3
  rw [er]
  simp only [Option.bind_some]
  rcases hr with ⟨rfl, hes4⟩ | hE
  · exact ⟨_, _, rfl, rfl, .inl ⟨P2, v, v2, e2 + 1, rfl, rfl, g2, by omega, hasB_mono b1 l2, b2, by omega, hes4⟩⟩
  · exact ⟨_, _, rfl, rfl, .inr ⟨hE, hE⟩⟩
theorem orFull_eq (k : Nat) (v : Int) (s : ByteArray) (pos : Int) (o : ByteArray) (ks : List Int) (p : List Nd) : F_impl_reader_orFull_51fc k v s pos 0 o ks p = some (if v < 0 then (-1, pos, 5) else (v, pos, 0)) := by
  unfold F_impl_reader_orFull_51fc
  rw [fail0]
  by_cases h : v < 0
  · rw [dneg h, cond_true, if_pos h]; rfl
  · rw [dnneg h, cond_false, if_neg h]
theorem kind_eq (k : Nat) (c : Int) : F_impl_kindOf k c = some (if c = 40 then 2 else if c = 123 then 3 else if c = 91 then 4 else if c = 35 then 5 else if c = 107 then 6 else if c = 94 then 7 else 8) := by
  unfold F_impl_kindOf
  simp only [beqI]
  repeat' split
  all_goals simp [*]
theorem fin_add {k : Nat} (hk : K0 ≤ k) (s : ByteArray) (ks : List Int) (p P : List Nd) (pos e : Nat) (c t : Int) (vs : List Int) (v w : Int) (a b : Int)
    (hc : optsR.data.toList.any (fun b => decide ((b.toNat : Int) = c)) = false) (ht : (if c = 40 then (2 : Int) else if c = 123 then 3 else if c = 91 then 4 else if c = 35 then 5 else if c = 107 then 6 else if c = 94 then 7 else 8) = t)
    (hv : vs = [v, w] ∨ (vs = [v] ∧ w = 0)) (g : Good P) (l : p.length ≤ P.length) (h1 : pos < e) (h2 : e ≤ s.size) :
    ∃ R R', F_spec_l10Run_J34 k (t, (a, b)) ((e : Int), (0, (v, (w, P)))) = some R ∧ F_impl_reader_read_0f1e_J6 k s c optsR ks ((e : Int), (0, (vs, P))) = some R' ∧ SameR s p pos R R' := by
  unfold F_spec_l10Run_J34 F_impl_reader_read_0f1e_J6 F_impl_RecipeRun_2_bfc8
  simp only [bne_self_eq_false, cond_false]
  rw [add_eq hk _ _ _ _ g.1, one_eq hk _ _ (by decide), hc]
  simp only [Option.bind_some, cond_false]
  have hadd : F_impl_reader_added_50c8 k c vs s (e : Int) 0 optsR ks P = some (if (addP P t v w).2 < 0 then (-1, (e : Int), 5, P) else ((addP P t v w).2, (e : Int), 0, (addP P t v w).1)) := by
    have J : F_impl_reader_added_50c8_J1 k c vs s (e : Int) 0 optsR ks P w = some (if (addP P t v w).2 < 0 then (-1, (e : Int), 5, P) else ((addP P t v w).2, (e : Int), 0, (addP P t v w).1)) := by
      unfold F_impl_reader_added_50c8_J1
      have h0 : at? vs 0 = some v := by rcases hv with rfl | ⟨rfl, _⟩ <;> rfl
      rw [kind_eq, ht, h0]
      simp only [Option.bind_some]
      rw [padd_eq hk _ _ _ _ g]
      simp only [Option.bind_some, orFull_eq]
      split
      · rename_i h; rw [(addP_good g t v w).2.2.1 h]
      · rfl
    unfold F_impl_reader_added_50c8
    rcases hv with rfl | ⟨rfl, rfl⟩
    · rw [show at? [v, w] 1 = some w from rfl]; exact J
    · exact J
  rw [hadd]
  simp only [Option.bind_some]
  have ga := addP_good g t v w
  by_cases h : (addP P t v w).2 < 0
  · rw [dneg h, cond_true, if_pos h]; exact ⟨_, _, rfl, rfl, .inr ⟨by show (5 : Int) ≠ 0; decide, by show (5 : Int) ≠ 0; decide⟩⟩
  · rw [dnneg h, cond_false, if_neg h]
    exact ⟨_, _, rfl, rfl, .inl ⟨_, _, e, rfl, rfl, ga.1, by omega, hasB_iff.2 ⟨by omega, ga.2.2.2⟩, h1, h2⟩⟩
theorem opened_eq {k : Nat} (hk : K0 ≤ k) (s : ByteArray) (ks : List Int) (P : List Nd) (e : Nat) (c v : Int) (hc : c = 60 ∨ c = 62 ∨ c = 33) (g : Good P) (hv : hasB P v = true) :
    (F_spec_l10Apply k P c v = some (-1) ∧ F_impl_reader_opened_50c8 k c [v] s (e : Int) 0 optsR ks P = some (-1, (e : Int), 7, P)) ∨
    (∃ u, F_spec_l10Apply k P c v = some u ∧ F_impl_reader_opened_50c8 k c [v] s (e : Int) 0 optsR ks P = some (u, (e : Int), 0, P) ∧ hasB P u = true) := by
  obtain ⟨x, ex, i, _, hx⟩ := has_at hv
  have hr := right_has g.2 hx
  unfold F_spec_l10Apply F_impl_reader_opened_50c8
  rw [show at? [v] 0 = some v from rfl]
  simp only [Option.bind_some, ex]
  unfold F_spec_l10Apply_J3 F_spec_l10Apply_J5 F_spec_l10Apply_J9 F_impl_reader_opened_50c8_J7 F_impl_reader_opened_50c8_J10 F_impl_reader_opened_50c8_J13 F_impl_reader_opened_50c8_J16 F_impl_reader_opened_50c8_J20
  simp only [fail0, Option.bind_some, beqI]
  rcases hc with rfl | rfl | rfl
  · by_cases h2 : x.1 = 2
    · simp only [h2, decide_true, cond_true]
      exact .inr ⟨_, rfl, rfl, (hr.1 (by rw [h2]; rfl)).1⟩
    · simp only [h2, decide_true, decide_false, cond_true, cond_false]
      exact .inl ⟨rfl, rfl⟩
  · by_cases h2 : x.1 = 2
    · simp only [h2, decide_true, cond_true]
      exact .inr ⟨_, rfl, rfl, (hr.1 (by rw [h2]; rfl)).2⟩
    · simp only [h2, decide_true, decide_false, cond_true, cond_false]
      exact .inl ⟨rfl, rfl⟩
  · by_cases h2 : x.1 = 4
    · simp only [h2, decide_true, cond_true]
      exact .inr ⟨_, rfl, rfl, (hr.1 (by rw [h2]; rfl)).1⟩
    · simp only [h2, decide_true, decide_false, cond_true, cond_false]
      exact .inl ⟨rfl, rfl⟩
theorem fin_apply {k : Nat} (hk : K0 ≤ k) (s : ByteArray) (ks : List Int) (p P : List Nd) (pos e : Nat) (c v : Int) (hc : c = 60 ∨ c = 62 ∨ c = 33) (g : Good P) (l : p.length ≤ P.length) (hv : hasB P v = true) (h1 : pos < e) (h2 : e ≤ s.size) :
    ∃ R R', ((F_spec_l10Apply k P c v).bind fun r25 => bif decide (r25 < 0) then some (P, (-1 : Int), (e : Int), (7 : Int)) else some (P, r25, (e : Int), 0)) = some R ∧ F_impl_reader_read_0f1e_J6 k s c optsR ks ((e : Int), (0, ([v], P))) = some R' ∧ SameR s p pos R R' := by
  unfold F_impl_reader_read_0f1e_J6 F_impl_RecipeRun_2_bfc8
  simp only [bne_self_eq_false, cond_false]
  rw [one_eq hk _ _ (by decide), show optsR.data.toList.any (fun b => decide ((b.toNat : Int) = c)) = true by rcases hc with rfl | rfl | rfl <;> decide]
  simp only [Option.bind_some, cond_true]
  rcases opened_eq hk s ks P e c v hc g hv with ⟨e1, e2⟩ | ⟨u, e1, e2, hu⟩
  · rw [e1, e2]
    exact ⟨_, _, rfl, rfl, .inr ⟨show (7 : Int) ≠ 0 by decide, show (7 : Int) ≠ 0 by decide⟩⟩
  · rw [e1, e2]
    have := hasB_iff.1 hu
    simp only [Option.bind_some]
    rw [dnneg (by omega), cond_false]
    exact ⟨_, _, rfl, rfl, .inl ⟨P, u, e, rfl, rfl, g, l, hu, h1, h2⟩⟩
theorem both_eq {k : Nat} (hk : K0 ≤ k) (s : ByteArray) (ks : List Int) (p P : List Nd) (pos e : Nat) (c v w : Int) (hc : c = 111 ∨ c = 120) (g : Good P) (l : p.length ≤ P.length) (hv : hasB P v = true) (hw : hasB P w = true) (h1 : pos < e) (h2 : e ≤ s.size) :
    ∃ R R', ((F_spec_l10Both k P c v w).bind fun r32 => some (r32.1, r32.2.1, (e : Int), r32.2.2)) = some R ∧ F_impl_reader_read_0f1e_J6 k s c optsR ks ((e : Int), (0, ([v, w], P))) = some R' ∧ SameR s p pos R R' := by
  unfold F_impl_reader_read_0f1e_J6 F_impl_RecipeRun_2_bfc8
  simp only [bne_self_eq_false, cond_false]
  rw [one_eq hk _ _ (by decide), show optsR.data.toList.any (fun b => decide ((b.toNat : Int) = c)) = true by rcases hc with rfl | rfl <;> decide]
  simp only [Option.bind_some, cond_true]
  obtain ⟨x, ex, i, _, hx⟩ := has_at hv
  have hr := right_has g.2 hx
  obtain ⟨y, ey, j, _, hy⟩ := has_at hw
  have hry := right_has g.2 hy
  have hP : P.length ≤ 3000000 := by have := g.1; omega
  have bad7 : ∀ A B : List Nd, SameR s p pos (A, -1, (e : Int), 7) (-1, (e : Int), 7, B) := fun _ _ => .inr ⟨show (7 : Int) ≠ 0 by decide, show (7 : Int) ≠ 0 by decide⟩
  unfold F_spec_l10Both F_impl_reader_opened_50c8
  rw [show at? [v, w] 0 = some v from rfl]
  simp only [Option.bind_some, ex, ey]
  unfold F_spec_l10Both_J3 F_impl_reader_opened_50c8_J7 F_impl_reader_opened_50c8_J10 F_impl_reader_opened_50c8_J13 F_impl_reader_opened_50c8_J16 F_impl_reader_opened_50c8_J20
  rw [show at? [v, w] 0 = some v from rfl, show at? [v, w] 1 = some w from rfl]
  simp only [Option.bind_some, fail0, ey, beqI, bneI]
  rcases hc with rfl | rfl
  · by_cases h3 : x.1 = 3
    · by_cases hxw : x.2.2 = w
      · simp only [h3, hxw, decide_true, decide_false, Bool.not_true, cond_true, cond_false]
        exact ⟨_, _, rfl, rfl, .inl ⟨P, x.2.1, e, rfl, rfl, g, l, (hr.1 (by rw [h3]; rfl)).1, h1, h2⟩⟩
      · simp only [h3, hxw, decide_true, decide_false, Bool.not_true, Bool.not_false, cond_true, cond_false]
        exact ⟨_, _, rfl, rfl, bad7 _ _⟩
    · simp only [h3, decide_true, decide_false, Bool.not_true, Bool.not_false, cond_true, cond_false]
      exact ⟨_, _, rfl, rfl, bad7 _ _⟩
  · by_cases h7 : y.1 = 7
    · have hy1 := hry.2 (by rw [h7]; rfl)
      have ga := addP_good g 8 v y.2.1
      have E1 : F_spec_l3Raise k P w v = some (addP P 8 v y.2.1) := by
        unfold F_spec_l3Raise F_spec_l3Raise_J1
        rw [has_eq _ _ _ hP, has_eq _ _ _ hP, hv, hw, ey]
        simp only [Option.bind_some, Bool.not_true, cond_false, h7, bne_self_eq_false]
        rw [add_eq hk _ _ _ _ g.1]; rfl
      have E2 : F_impl_Pool_raise_7f23 k w v P = some ((addP P 8 v y.2.1).2, (addP P 8 v y.2.1).1) := by
        unfold F_impl_Pool_raise_7f23 F_impl_Pool_raise_7f23_J1
        rw [isTerm'_eq _ _ _ hP, isTerm'_eq _ _ _ hP, hv, hw, ey]
        simp only [Option.bind_some, Bool.not_true, cond_false, h7, bne_self_eq_false]
        rw [padd_eq hk _ _ _ _ g]; rfl
      simp only [E1, E2, Option.bind_some, orFull_eq]
      simp only [h7, decide_true, decide_false, Bool.not_true, Bool.not_false, cond_true, cond_false]
      by_cases h : (addP P 8 v y.2.1).2 < 0
      · simp only [dneg h, cond_true, if_pos h]
        exact ⟨_, _, rfl, rfl, .inr ⟨show (5 : Int) ≠ 0 by decide, show (5 : Int) ≠ 0 by decide⟩⟩
      · simp only [dnneg h, cond_false, if_neg h]
        exact ⟨_, _, rfl, rfl, .inl ⟨(addP P 8 v y.2.1).1, (addP P 8 v y.2.1).2, e, rfl, rfl, ga.1, by omega, hasB_iff.2 ⟨by omega, ga.2.2.2⟩, h1, h2⟩⟩
    · simp only [h7, decide_true, decide_false, Bool.not_true, Bool.not_false, cond_true, cond_false]
      exact ⟨_, _, rfl, rfl, bad7 _ _⟩
theorem dge1 {a b : Nat} (h : b ≤ a) : decide ((a : Int) ≥ (b : Int)) = true := decide_eq_true (by omega)
theorem dge0 {a b : Nat} (h : ¬ b ≤ a) : decide ((a : Int) ≥ (b : Int)) = false := decide_eq_false (by omega)
theorem readB_past {k : Nat} (q : QS) (q' : QI) (s : ByteArray) (ks : List Int) (p : List Nd) (pos : Nat) (h : s.size ≤ pos) :
    ∃ R R', F_spec_l10Run_B k q p ks s (pos : Int) = some R ∧ F_impl_reader_read_0f1e_B k q' s (pos : Int) 0 optsR ks p = some R' ∧ SameR s p pos R R' := by
  unfold F_spec_l10Run_B F_impl_reader_read_0f1e_B
  simp only [bne_self_eq_false, cond_false, peek_eq, Option.bind_some, dge1 h, cond_true, fail0]
  exact ⟨_, _, rfl, rfl, .inr ⟨show (2 : Int) ≠ 0 by decide, show (2 : Int) ≠ 0 by decide⟩⟩
theorem J6_bad {k : Nat} (s : ByteArray) (c : Int) (ks : List Int) (v : Int × Int × List Int × List Nd) (h : v.2.1 ≠ 0) : F_impl_reader_read_0f1e_J6 k s c optsR ks v = some (-1, v.1, v.2.1, v.2.2.2) := by
  unfold F_impl_reader_read_0f1e_J6
  rw [dne0 h, cond_true]
abbrev T7 (P : List Nd) : Prop := True
theorem one_below {k : Nat} (hk : K0 ≤ k) {q : QS} {q' : QI} {s : ByteArray} {ks : List Int} {p : List Nd} {pos : Nat} (h : QQ q q' s ks p (pos + 1)) (hp : pos < s.size) (hg : Good p) (c : Int)
    (f : List Nd × Int × Int × Int → Option (List Nd × Int × Int × Int)) (g : Int × Int × Int × List Nd → Option (Int × Int × Int × List Nd))
    (hgood : ∀ (P : List Nd) (v : Int) (e : Nat), Good P → p.length ≤ P.length → hasB P v = true → pos < e → e ≤ s.size → ∃ R R', f (P, v, (e : Int), 0) = some R ∧ g (v, (e : Int), 0, P) = some R' ∧ SameR s p pos R R')
    (hbad : ∀ R R', R.2.2.2 ≠ 0 → R'.2.2.1 ≠ 0 → ∃ R2 R2', f R = some R2 ∧ g R' = some R2' ∧ R2.2.2.2 ≠ 0 ∧ R2'.2.2.1 ≠ 0) :
    ∃ R R', ((q p ks s ((pos + 1 : Nat) : Int)).bind f) = some R ∧ ((q' s ((pos + 1 : Nat) : Int) 0 optsR ks p).bind g) = some R' ∧ SameR s p pos R R' := by
  obtain ⟨R, R', e1, e2, hR⟩ := h.good (pos + 1) p (Nat.le_refl _) hp hg (Nat.le_refl _)
  rw [e1, e2]
  simp only [Option.bind_some]
  rcases hR with ⟨P, v, e, rfl, rfl, g1, l1, b1, hpe, hes⟩ | ⟨hE, hE'⟩
  · exact hgood P v e g1 l1 b1 (by omega) hes
  · obtain ⟨R2, R2', e1, e2, h1, h2⟩ := hbad R R' hE hE'
    exact ⟨R2, R2', e1, e2, .inr ⟨h1, h2⟩⟩
theorem two_below {k : Nat} (hk : K0 ≤ k) {q : QS} {q' : QI} {s : ByteArray} (hs : s.size ≤ 3000000) {ks : List Int} {p : List Nd} {pos : Nat} (h : QQ q q' s ks p (pos + 1)) (hg : Good p) (c : Int) (pos1 : Nat) (hp1 : pos < pos1) (hp2 : pos1 ≤ s.size)
    (f : List Nd × Int × Int × Int × Int → Option (List Nd × Int × Int × Int)) (g : Int × Int × List Int × List Nd → Option (Int × Int × Int × List Nd))
    (hgood : ∀ (P : List Nd) (v w : Int) (e : Nat), Good P → p.length ≤ P.length → hasB P v = true → hasB P w = true → pos < e → e ≤ s.size → ∃ R R', f (P, v, w, (e : Int), 0) = some R ∧ g ((e : Int), 0, [v, w], P) = some R' ∧ SameR s p pos R R')
    (hbad : ∀ T T', T.2.2.2.2 ≠ 0 → T'.2.1 ≠ 0 → ∃ R2 R2', f T = some R2 ∧ g T' = some R2' ∧ R2.2.2.2 ≠ 0 ∧ R2'.2.2.1 ≠ 0) :
    ∃ R R', ((F_spec_l10Two k q p ks s (pos1 : Int) false c).bind f) = some R ∧ ((F_impl_reader_two_32e8 k q' c s (pos1 : Int) 0 optsR ks p).bind g) = some R' ∧ SameR s p pos R R' := by
  obtain ⟨T, T', e1, e2, hT⟩ := two_eq (k := k) hs h c pos1 (by omega) hp2 hg
  rw [e1, e2]
  simp only [Option.bind_some]
  rcases hT with ⟨P, v, w, e, rfl, rfl, g1, l1, b1, b2, hpe, hes⟩ | ⟨hE, hE'⟩
  · exact hgood P v w e g1 l1 b1 b2 (by omega) hes
  · obtain ⟨R2, R2', e1, e2, h1, h2⟩ := hbad T T' hE hE'
    exact ⟨R2, R2', e1, e2, .inr ⟨h1, h2⟩⟩
theorem two_open {k : Nat} (hk : K0 ≤ k) {q : QS} {q' : QI} {s : ByteArray} (hs : s.size ≤ 3000000) {ks : List Int} {p : List Nd} {pos : Nat} (h : QQ q q' s ks p (pos + 1)) (hp : pos < s.size) (hg : Good p) (c : Int)
    (f : List Nd × Int × Int × Int × Int → Option (List Nd × Int × Int × Int)) (g : Int × Int × List Int × List Nd → Option (Int × Int × Int × List Nd))
    (hgood : ∀ (P : List Nd) (v w : Int) (e : Nat), Good P → p.length ≤ P.length → hasB P v = true → hasB P w = true → pos < e → e ≤ s.size → ∃ R R', f (P, v, w, (e : Int), 0) = some R ∧ g ((e : Int), 0, [v, w], P) = some R' ∧ SameR s p pos R R')
    (hbad : ∀ T T', T.2.2.2.2 ≠ 0 → T'.2.1 ≠ 0 → ∃ R2 R2', f T = some R2 ∧ g T' = some R2' ∧ R2.2.2.2 ≠ 0 ∧ R2'.2.2.1 ≠ 0) :
    ∃ R R', ((F_spec_l10Two k q p ks s ((pos + 1 : Nat) : Int) true c).bind f) = some R ∧ ((F_impl_reader_take_32e8 k 40 s ((pos + 1 : Nat) : Int) 0 optsR ks p).bind fun r30 => (F_impl_reader_two_32e8 k q' c s r30.1 r30.2 optsR ks p).bind g) = some R' ∧ SameR s p pos R R' := by
  obtain ⟨r, er, hr⟩ := want_eq k s hs (pos + 1) 40 hp
  rw [take0, er]
  have hd : ∀ r2 : Int × Int, r2.2 ≠ 0 → ∃ T, F_spec_l10Two_J1 k p ks s c q r2 = some T ∧ T.2.2.2.2 ≠ 0 := fun r2 h2 => by
    unfold F_spec_l10Two_J1 F_spec_l10Two_J4 F_spec_l10Two_J7 F_spec_l10Two_J10 F_spec_l10Two_J13
    simp only [deq0 h2, cond_false]
    exact ⟨_, rfl, h2⟩
  have e0 : F_spec_l10Two k q p ks s ((pos + 1 : Nat) : Int) true c = F_spec_l10Two_J1 k p ks s c q r := by
    unfold F_spec_l10Two
    rw [cond_true, er]; rfl
  rw [e0]
  simp only [Option.bind_some]
  rcases hr with ⟨rfl, hps⟩ | hE
  · have e3 : F_spec_l10Two_J1 k p ks s c q (((pos + 1 + 1 : Nat) : Int), 0) = F_spec_l10Two k q p ks s ((pos + 1 + 1 : Nat) : Int) false c := rfl
    rw [e3]
    exact two_below hk hs h hg c (pos + 1 + 1) (by omega) hps f g hgood hbad
  · obtain ⟨T, eT, hT⟩ := hd r hE
    rw [eT, two_bad h c r.1 r.2 p hE]
    simp only [Option.bind_some]
    obtain ⟨R2, R2', e1, e2, h1, h2⟩ := hbad T (r.1, r.2, [-1, -1], p) hT hE
    exact ⟨R2, R2', e1, e2, .inr ⟨h1, h2⟩⟩
end Go.Proofs.YtmbbapeiikifgaaGreatDoor
