/- Plain laws, first part: pools, what is right, what is known. -/
import Derived.Test.YtmbbapeiikifgaaGreatDoorPgF
set_option linter.all false
namespace Go.Proofs.YtmbbapeiikifgaaGreatDoor
open Go
abbrev Nd := Int × (Int × Int)
abbrev K0 : Nat := 4000000
theorem w64_id {x : Int} (h1 : -9223372036854775808 ≤ x) (h2 : x < 9223372036854775808) : w64 x = x := by
  show IntKind.i64.wrap x = x
  rw [IntKind.wrap_i64]; omega
theorem w64_succ {i : Nat} (h : i < 4611686018427387904) : w64 ((i : Int) + 1) = ((i + 1 : Nat) : Int) := by
  rw [w64_id (by omega) (by omega)]; omega
theorem at?_nat {α : Type} (xs : List α) (i : Nat) : at? xs (i : Int) = xs[i]? := by simp [at?]
theorem at?_lt {α : Type} (xs : List α) (i : Nat) (h : i < xs.length) : at? xs (i : Int) = some xs[i] := by simp [at?, h]
theorem dlt {a b : Nat} (h : a < b) : decide ((a : Int) < (b : Int)) = true := by simpa using h
theorem dge {a b : Nat} (h : ¬ a < b) : decide ((a : Int) < (b : Int)) = false := by simpa using h
theorem beqI (a b : Int) : (a == b) = decide (a = b) := by rw [Bool.eq_iff_iff]; simp
theorem bneI (a b : Int) : (a != b) = !decide (a = b) := by rw [Bool.eq_iff_iff]; simp
def fndAt (x : Nd) : List Nd → Nat → Int
  | [], _ => -1
  | y :: ys, i => if y = x then (i : Int) else fndAt x ys (i + 1)
def fnd (p : List Nd) (x : Nd) : Int := fndAt x p 0
theorem fndAt_spec (x : Nd) : ∀ (p : List Nd) (i : Nat), (fndAt x p i = -1 ∧ x ∉ p) ∨ (∃ j, fndAt x p i = ((i + j : Nat) : Int) ∧ p[j]? = some x ∧ x ∉ p.take j)
  | [], i => .inl ⟨rfl, by simp⟩
  | y :: ys, i => by
    unfold fndAt
    by_cases h : y = x
    · exact .inr ⟨0, by simp [h], by simp [h], by simp⟩
    · rw [if_neg h]
      rcases fndAt_spec x ys (i + 1) with ⟨h1, h2⟩ | ⟨j, h1, h2, h3⟩
      · exact .inl ⟨h1, by simp [h2, Ne.symm h]⟩
      · exact .inr ⟨j + 1, by rw [h1]; omega, by simpa using h2, by simp [h3, Ne.symm h]⟩
theorem fnd_spec (p : List Nd) (x : Nd) : (fnd p x = -1 ∧ x ∉ p) ∨ (∃ j : Nat, fnd p x = (j : Int) ∧ p[j]? = some x ∧ x ∉ p.take j) := by
  simpa [fnd] using fndAt_spec x p 0
theorem find_L (k : Nat) (p : List Nd) (a b c : Int) (e : Unit → Option Int) (he : e () = some (-1)) (hp : p.length < 4611686018427387904) : ∀ (n i : Nat), p.length - i < n →
    F_spec_l1Find_L2 k p a b c e n (i : Int) = some (fndAt (a, b, c) (p.drop i) i)
  | 0, i, h => absurd h (by omega)
  | n + 1, i, h => by
    unfold F_spec_l1Find_L2
    by_cases hl : i < p.length
    · rw [dlt hl, cond_true, at?_lt _ _ hl, Option.bind_some, List.drop_eq_getElem_cons hl, w64_succ (by omega), find_L k p a b c e he hp n (i + 1) (by omega)]
      by_cases hx : p[i] = (a, b, c)
      · simp [fndAt, hx]
      · simp only [fndAt, if_neg hx]
        have : (p[i].1 == a && (p[i].2.1 == b && (p[i].2.2 == c && true))) = false := by
          rw [Bool.eq_false_iff]
          intro hh
          simp only [Bool.and_eq_true, beq_iff_eq, and_true] at hh
          exact hx (Prod.ext hh.1 (Prod.ext hh.2.1 hh.2.2))
        rw [this, cond_false]
    · rw [dge hl, cond_false, he, List.drop_eq_nil_of_le (by omega)]; rfl
theorem find_eq {k : Nat} (hk : K0 ≤ k) (p : List Nd) (a b c : Int) (hp : p.length ≤ 3000000) : F_spec_l1Find k p a b c = some (fnd p (a, b, c)) := by
  unfold F_spec_l1Find
  have := find_L k p a b c (F_spec_l1Find_J1 k) rfl (by omega) k 0 (by simp only [K0] at hk; omega)
  simpa [fnd] using this
theorem index_L (k : Nat) (p : List Nd) (a b c : Int) (e : Unit → Option Int) : ∀ (n : Nat) (i : Int), F_slices_Index_impl_Node_impl_Node_L2 k p a b c e n i = F_spec_l1Find_L2 k p a b c e n i
  | 0, i => rfl
  | n + 1, i => by
    unfold F_slices_Index_impl_Node_impl_Node_L2 F_spec_l1Find_L2
    simp only [index_L k p a b c e n, Bool.beq_comm (a := a), Bool.beq_comm (a := b), Bool.beq_comm (a := c)]
theorem pfind_eq {k : Nat} (hk : K0 ≤ k) (p : List Nd) (a b c : Int) (hp : p.length ≤ 3000000) : F_impl_Pool_find_679a k a b c p = some (fnd p (a, b, c)) := by
  unfold F_impl_Pool_find_679a F_slices_Index_impl_Node_impl_Node
  rw [index_L]
  have := find_L k p a b c (F_slices_Index_impl_Node_impl_Node_J1 k) rfl (by omega) k 0 (by simp only [K0] at hk; omega)
  simp only [Int.ofNat_zero, List.drop_zero] at this
  rw [this]; rfl
def parts (t : Int) : Int := if t = 1 then 0 else if t = 5 ∨ t = 7 then 1 else if t = 2 ∨ t = 3 ∨ t = 4 ∨ t = 6 ∨ t = 8 then 2 else -1
def inB (a lo hi : Int) : Bool := decide (lo ≤ a ∧ a ≤ hi)
def rightB (x : Nd) (n : Nat) : Bool :=
  if parts x.1 = 0 then inB x.2.1 0 199 && decide (x.2.2 = 0)
  else if parts x.1 = 1 then inB x.2.1 0 ((n : Int) - 1) && decide (x.2.2 = 0)
  else if parts x.1 = 2 then inB x.2.1 0 ((n : Int) - 1) && (inB x.2.2 0 ((n : Int) - 1) && (decide (x.1 ≠ 8) || decide (x.2.1 ≤ x.2.2)))
  else false
theorem parts_eq (k : Nat) (t : Int) : F_spec_l1Parts k t = some (parts t) := by
  unfold F_spec_l1Parts F_spec_l1Parts_J3 F_spec_l1Parts_J6 parts
  by_cases h1 : t = 1; · subst h1; rfl
  by_cases h5 : t = 5; · subst h5; rfl
  by_cases h7 : t = 7; · subst h7; rfl
  by_cases h2 : t = 2; · subst h2; rfl
  by_cases h3 : t = 3; · subst h3; rfl
  by_cases h4 : t = 4; · subst h4; rfl
  by_cases h6 : t = 6; · subst h6; rfl
  by_cases h8 : t = 8; · subst h8; rfl
  rw [show (t == 1) = false by simpa using h1, show (t == 5) = false by simpa using h5, show (t == 7) = false by simpa using h7, show (t == 2) = false by simpa using h2, show (t == 3) = false by simpa using h3, show (t == 4) = false by simpa using h4, show (t == 6) = false by simpa using h6, show (t == 8) = false by simpa using h8]
  simp [*]
theorem in_eq (k : Nat) (a lo hi : Int) : F_spec_l1In k a lo hi = some (inB a lo hi) := by
  unfold F_spec_l1In inB
  by_cases h : lo ≤ a <;> simp [h]
theorem inRange_eq (k : Nat) (a lo hi : Int) : F_impl_inRange k a lo hi = some (inB a lo hi) := in_eq k a lo hi
theorem right_eq (k : Nat) (x : Nd) (n : Nat) (hn : n < 4611686018427387904) : F_spec_l1Right k x.1 x.2.1 x.2.2 (n : Int) = some (rightB x n) := by
  unfold F_spec_l1Right rightB
  rw [parts_eq]
  simp only [Option.bind_some, in_eq, beqI, bneI]
  rw [w64_id (x := (n : Int) - 1) (by omega) (by omega)]
  by_cases h0 : parts x.1 = 0
  · simp [h0]; cases inB x.2.1 0 199 <;> simp
  by_cases h1 : parts x.1 = 1
  · simp [h1]; cases inB x.2.1 0 ((n : Int) - 1) <;> simp
  by_cases h2 : parts x.1 = 2
  · simp [h2]; cases inB x.2.1 0 ((n : Int) - 1) <;> simp; cases inB x.2.2 0 ((n : Int) - 1) <;> simp; by_cases h8 : x.1 = 8 <;> simp [h8]
  simp [h0, h1, h2]
theorem nodeOk_eq (k : Nat) (x : Nd) (n : Nat) (hn : n < 4611686018427387904) : F_impl_nodeOk k x.1 x.2.1 x.2.2 (n : Int) = some (rightB x n) := right_eq k x n hn
theorem rightB_mono {x : Nd} {n m : Nat} (h : rightB x n = true) (hm : n ≤ m) : rightB x m = true := by
  unfold rightB inB at *
  split at h
  · simpa [*] using h
  · split at h
    · simp only [*] at *; simp at h ⊢; omega
    · split at h
      · simp only [*] at *; simp at h ⊢; refine ⟨by omega, by omega, ?_⟩; exact h.2.2
      · cases h
def okAt (p : List Nd) (j : Nat) : Prop := ∃ x, p[j]? = some x ∧ rightB x j = true ∧ x ∉ p.take j
def AllRight (p : List Nd) : Prop := ∀ j, j < p.length → okAt p j
theorem AllRight.at {p : List Nd} (h : AllRight p) {j : Nat} {x : Nd} (hx : p[j]? = some x) : rightB x j = true := by
  obtain ⟨y, hy, hr, _⟩ := h j (List.getElem?_eq_some_iff.1 hx).1
  rw [hx] at hy; cases hy; exact hr
open Classical in
noncomputable def poolOk (p : List Nd) : Bool := decide (p.length ≤ 500) && decide (∀ j, j < p.length → okAt p j)
theorem poolOk_len {p : List Nd} (h : poolOk p = true) : p.length ≤ 500 := by
  unfold poolOk at h; simp at h; exact h.1
theorem poolOk_right {p : List Nd} (h : poolOk p = true) : AllRight p := by
  unfold poolOk at h; simp at h
  exact h.2
theorem poolOk_mk {p : List Nd} (h : p.length ≤ 500) (h2 : AllRight p) : poolOk p = true := by
  unfold poolOk; simp
  exact ⟨h, h2⟩
open Classical in
theorem poolOk_L (k : Nat) (hk : K0 ≤ k) (p : List Nd) (hp : p.length ≤ 500) (e : Unit → Option Bool) : ∀ (n i : Nat), p.length - i < n →
    F_spec_PoolOk_L3 k p e n (i : Int) = if ∀ j, i ≤ j → j < p.length → okAt p j then e () else some false
  | 0, i, h => absurd h (by omega)
  | n + 1, i, h => by
    unfold F_spec_PoolOk_L3 F_spec_PoolOk_J17
    by_cases hl : i < p.length
    · rw [dlt hl, cond_true, at?_lt _ _ hl, Option.bind_some, right_eq _ _ _ (by omega), Option.bind_some, Option.bind_some, find_eq hk _ _ _ _ (by omega), Option.bind_some, w64_succ (by omega), poolOk_L k hk p hp e n (i + 1) (by omega)]
      have hg : p[i]? = some p[i] := List.getElem?_eq_getElem hl
      by_cases hr : rightB p[i] i = true
      · rw [hr]
        simp only [Bool.not_true, cond_false]
        by_cases hf : fnd p p[i] = (i : Int)
        · have hf' : fnd p (p[i].1, p[i].2.1, p[i].2.2) = (i : Int) := hf
          rw [hf']
          simp only [bne_self_eq_false, cond_false]
          have hok : okAt p i := by
            rcases fnd_spec p p[i] with ⟨h1, _⟩ | ⟨j, h1, h2, h3⟩
            · omega
            · have : j = i := by omega
              subst this; exact ⟨_, hg, hr, h3⟩
          congr 1
          refine propext ⟨fun hh j h1 h2 => ?_, fun hh j h1 h2 => hh j (by omega) h2⟩
          rcases Nat.eq_or_lt_of_le h1 with h1 | h1
          · subst h1; exact hok
          · exact hh j h1 h2
        · have hf' : (fnd p (p[i].1, p[i].2.1, p[i].2.2) != (i : Int)) = true := by simpa using hf
          rw [hf', cond_true, if_neg]
          intro hh
          obtain ⟨x, hx, _, h3⟩ := hh i (Nat.le_refl _) hl
          rw [hg] at hx; cases hx
          rcases fnd_spec p p[i] with ⟨h1, h2⟩ | ⟨j, h1, h2, h4⟩
          · exact h2 (List.getElem_mem hl)
          · rcases Nat.lt_trichotomy j i with hj | hj | hj
            · apply h3
              exact List.mem_of_getElem? (i := j) (by rw [List.getElem?_take_of_lt hj]; exact h2)
            · subst hj; exact hf h1
            · apply h4
              exact List.mem_of_getElem? (i := i) (by rw [List.getElem?_take_of_lt hj]; exact hg)
      · rw [Bool.not_eq_true] at hr
        rw [hr]
        simp only [Bool.not_false, cond_true]
        rw [if_neg]
        intro hh
        obtain ⟨x, hx, h2, _⟩ := hh i (Nat.le_refl _) hl
        rw [hg] at hx; cases hx
        rw [hr] at h2; cases h2
    · rw [dge hl, cond_false, if_pos]
      intro j h1 h2; omega
open Classical in
theorem poolOk_eq {k : Nat} (hk : K0 ≤ k) (p : List Nd) : F_spec_PoolOk k p = some (poolOk p) := by
  unfold F_spec_PoolOk poolOk
  by_cases hp : p.length ≤ 500
  · rw [show decide ((p.length : Int) > 500) = false by simp; omega, cond_false]
    have := poolOk_L k hk p hp (F_spec_PoolOk_J2 k) k 0 (by simp only [K0] at hk; omega)
    rw [show ((0 : Nat) : Int) = 0 from rfl] at this
    rw [this]
    simp only [hp, decide_true, Bool.true_and]
    by_cases h : ∀ j, j < p.length → okAt p j
    · rw [if_pos (fun j _ h2 => h j h2), decide_eq_true h]; rfl
    · rw [if_neg (fun hh => h (fun j h2 => hh j (Nat.zero_le _) h2))]; simp [h]
  · rw [show decide ((p.length : Int) > 500) = true by simp; omega, cond_true]
    simp [hp]
theorem mget_mput {α : Type} [DecidableEq α] (m : List (α × Int)) (x y : α) (v : Int) : mget (mput m x v) y = if y = x then v else mget m y := by
  induction m with
  | nil => simp [mput, mget]
  | cons e es ih =>
    unfold mput
    by_cases h : x = e.1
    · rw [if_pos h]; simp only [mget, h]; split <;> rfl
    · rw [if_neg h]; simp only [mget, ih]
      by_cases h2 : y = e.1
      · rw [if_pos h2, if_neg (by rw [h2]; exact Ne.symm h), if_pos h2]
      · rw [if_neg h2, if_neg h2]
theorem mget_nil {α : Type} [DecidableEq α] (y : α) : mget ([] : List (α × Int)) y = 0 := rfl
open Classical in
theorem iPoolOk_L (k : Nat) (hk : K0 ≤ k) (p : List Nd) (hp : p.length ≤ 500) (e : Unit → Option Bool) : ∀ (n i : Nat) (m : List (Nd × Int)), p.length - i < n → (∀ x, mget m x = ((p.take i).count x : Int)) →
    (∀ x, (p.take i).count x ≤ 1) →
    F_impl_PoolOk_L3 k p e n ((i : Int), m) = if ∀ j, i ≤ j → j < p.length → okAt p j then e () else some false
  | 0, i, m, h, _, _ => absurd h (by omega)
  | n + 1, i, m, h, hm, h1 => by
    unfold F_impl_PoolOk_L3 F_impl_PoolOk_J24
    by_cases hl : i < p.length
    · simp only []
      rw [dlt hl, cond_true, at?_lt _ _ hl, Option.bind_some, nodeOk_eq _ _ _ (by omega), Option.bind_some, w64_succ (by omega)]
      have hg : p[i]? = some p[i] := List.getElem?_eq_getElem hl
      have hc : (p.take i).count p[i] ≤ 1 := h1 _
      have hw : w64 (mget m p[i] + 1) = ((p.take i).count p[i] : Int) + 1 := by rw [hm, w64_id (by omega) (by omega)]
      have hm' : ∀ x, mget (mput m p[i] (w64 (mget m p[i] + 1))) x = ((p.take (i + 1)).count x : Int) := by
        intro x
        rw [mget_mput, hw, List.take_succ, hg, Option.toList_some, List.count_append, hm]
        by_cases hx : x = p[i]
        · rw [if_pos hx, hx]; simp
        · rw [if_neg hx, List.count_singleton, if_neg (by simpa using Ne.symm hx)]; simp
      have e1 : mget (mput m (p[i].1, (p[i].2.1, p[i].2.2)) (w64 (mget m (p[i].1, (p[i].2.1, p[i].2.2)) + 1))) (p[i].1, (p[i].2.1, p[i].2.2)) = ((p.take i).count p[i] : Int) + 1 := by
        show mget (mput m p[i] (w64 (mget m p[i] + 1))) p[i] = _
        rw [mget_mput, if_pos rfl, hw]
      rw [e1]
      by_cases h0 : (p.take i).count p[i] = 0
      · have h0' : p[i] ∉ p.take i := List.count_eq_zero.1 h0
        rw [h0, show decide (((0 : Nat) : Int) + 1 > 1) = false by decide, cond_false]
        by_cases hr : rightB p[i] i = true
        · rw [hr, Bool.not_true, cond_false]
          have := iPoolOk_L k hk p hp e n (i + 1) _ (by omega) hm' (fun x => by
            rw [List.take_succ, hg, Option.toList_some, List.count_append, List.count_singleton]
            by_cases hx : p[i] = x
            · subst hx; simp [h0]
            · rw [if_neg (by simpa using hx)]; exact h1 x)
          rw [show mput m (p[i].1, (p[i].2.1, p[i].2.2)) (w64 (mget m (p[i].1, (p[i].2.1, p[i].2.2)) + 1)) = mput m p[i] (w64 (mget m p[i] + 1)) from rfl, this]
          congr 1
          refine propext ⟨fun hh j h1 h2 => ?_, fun hh j h1 h2 => hh j (by omega) h2⟩
          rcases Nat.eq_or_lt_of_le h1 with h1 | h1
          · subst h1; exact ⟨_, hg, hr, h0'⟩
          · exact hh j h1 h2
        · rw [Bool.not_eq_true] at hr
          rw [hr, Bool.not_false, cond_true, if_neg]
          intro hh
          obtain ⟨x, hx, h2, _⟩ := hh i (Nat.le_refl _) hl
          rw [hg] at hx; cases hx
          rw [hr] at h2; cases h2
      · rw [show decide (((p.take i).count p[i] : Int) + 1 > 1) = true by simp; omega, cond_true, cond_true, if_neg]
        intro hh
        obtain ⟨x, hx, _, h3⟩ := hh i (Nat.le_refl _) hl
        rw [hg] at hx; cases hx
        exact h0 (List.count_eq_zero.2 h3)
    · simp only []
      rw [dge hl, cond_false, if_pos]
      intro j h1 h2; omega
open Classical in
theorem iPoolOk_eq {k : Nat} (hk : K0 ≤ k) (p : List Nd) : F_impl_PoolOk k p = some (poolOk p) := by
  unfold F_impl_PoolOk poolOk
  by_cases hp : p.length ≤ 500
  · rw [show decide ((p.length : Int) > 500) = false by simp; omega, cond_false]
    have := iPoolOk_L k hk p hp (F_impl_PoolOk_J2 k) k 0 [] (by simp only [K0] at hk; omega) (fun x => by simp [mget_nil]) (fun x => by simp)
    rw [show ((0 : Nat) : Int) = 0 from rfl] at this
    rw [this]
    simp only [hp, decide_true, Bool.true_and]
    by_cases h : ∀ j, j < p.length → okAt p j
    · rw [if_pos (fun j _ h2 => h j h2), decide_eq_true h]; rfl
    · rw [if_neg (fun hh => h (fun j h2 => hh j (Nat.zero_le _) h2))]; simp [h]
  · rw [show decide ((p.length : Int) > 500) = true by simp; omega, cond_true]
    simp [hp]
def hasB (p : List Nd) (a : Int) : Bool := inB a 0 ((p.length : Int) - 1)
theorem hasB_iff {p : List Nd} {a : Int} : hasB p a = true ↔ 0 ≤ a ∧ a < p.length := by
  unfold hasB inB; simp; omega
theorem has_eq (k : Nat) (p : List Nd) (a : Int) (hp : p.length ≤ 3000000) : F_spec_l1Has k p a = some (hasB p a) := by
  unfold F_spec_l1Has hasB
  rw [in_eq, w64_id (by omega) (by omega)]; rfl
theorem isTerm_eq (k : Nat) (p : List Nd) (a : Int) (hp : p.length ≤ 3000000) : F_impl_Pool_isTerm k a p = some (hasB p a) := has_eq k p a hp
theorem isTerm'_eq (k : Nat) (p : List Nd) (a : Int) (hp : p.length ≤ 3000000) : F_impl_Pool_isTerm_3ca5 k a p = some (hasB p a) := has_eq k p a hp
def kAt (p : List Nd) (ks : List Int) (j : Nat) : Prop := ∃ x, ks[j]? = some x ∧ hasB p x = true ∧ ∀ i y, i + 1 = j → ks[i]? = some y → y < x
open Classical in
noncomputable def knowOk (p : List Nd) (ks : List Int) : Bool := decide (ks.length ≤ 200 ∧ ∀ j, j < ks.length → kAt p ks j)
open Classical in
theorem know_L (k : Nat) (p : List Nd) (ks : List Int) (hp : p.length ≤ 3000000) (hks : ks.length ≤ 3000000) (e : Unit → Option Bool) : ∀ (n i : Nat), ks.length - i < n →
    F_spec_l6Know_L3 k p ks e n (i : Int) = if ∀ j, i ≤ j → j < ks.length → kAt p ks j then e () else some false
  | 0, i, h => absurd h (by omega)
  | n + 1, i, h => by
    unfold F_spec_l6Know_L3 F_spec_l6Know_J17
    by_cases hl : i < ks.length
    · have hg : ks[i]? = some ks[i] := List.getElem?_eq_getElem hl
      rw [dlt hl, cond_true, at?_lt _ _ hl, Option.bind_some, has_eq _ _ _ hp, Option.bind_some, w64_succ (by omega), know_L k p ks hp hks e n (i + 1) (by omega)]
      have step : kAt p ks i → (if ∀ j, i + 1 ≤ j → j < ks.length → kAt p ks j then e () else some false) = if ∀ j, i ≤ j → j < ks.length → kAt p ks j then e () else some false := fun hok => by
        congr 1
        refine propext ⟨fun hh j h1 h2 => ?_, fun hh j h1 h2 => hh j (by omega) h2⟩
        rcases Nat.eq_or_lt_of_le h1 with h1 | h1
        · subst h1; exact hok
        · exact hh j h1 h2
      by_cases hr : hasB p ks[i] = true
      · rw [hr, Bool.not_true, cond_false]
        cases i with
        | zero =>
          rw [show decide (((0 : Nat) : Int) > 0) = false by decide, cond_false, cond_false]
          exact step ⟨_, hg, hr, fun i y h1 h2 => absurd h1 (by omega)⟩
        | succ i =>
          have hg2 : ks[i]? = some ks[i] := List.getElem?_eq_getElem (by omega)
          rw [show decide (((i + 1 : Nat) : Int) > 0) = true from decide_eq_true (by omega), cond_true, w64_id (by omega) (by omega), show ((i + 1 : Nat) : Int) - 1 = (i : Int) by omega, at?_lt _ i (by omega), Option.bind_some, Option.bind_some]
          by_cases hlt : ks[i] < ks[i + 1]
          · rw [show decide (ks[i] ≥ ks[i + 1]) = false by simpa using hlt, cond_false]
            refine step ⟨_, hg, hr, fun j y h1 h2 => ?_⟩
            have : j = i := by omega
            subst this
            rw [hg2] at h2; cases h2; exact hlt
          · rw [show decide (ks[i] ≥ ks[i + 1]) = true by simpa using hlt, cond_true, if_neg]
            intro hh
            obtain ⟨x, hx, _, h3⟩ := hh (i + 1) (Nat.le_refl _) hl
            rw [hg] at hx; cases hx
            exact hlt (h3 i _ rfl hg2)
      · rw [Bool.not_eq_true] at hr
        rw [hr, Bool.not_false, cond_true, cond_true, if_neg]
        intro hh
        obtain ⟨x, hx, h2, _⟩ := hh i (Nat.le_refl _) hl
        rw [hg] at hx; cases hx
        rw [hr] at h2; cases h2
    · rw [dge hl, cond_false, if_pos]
      intro j h1 h2; omega
open Classical in
theorem l6Know_eq {k : Nat} (hk : K0 ≤ k) (p : List Nd) (ks : List Int) (hp : p.length ≤ 3000000) (hks : ks.length ≤ 3000000) : F_spec_l6Know k p ks = some (knowOk p ks) := by
  unfold F_spec_l6Know knowOk
  by_cases hl : ks.length ≤ 200
  · rw [show decide ((ks.length : Int) > 200) = false by simp; omega, cond_false]
    have := know_L k p ks hp hks (F_spec_l6Know_J2 k) k 0 (by simp only [K0] at hk; omega)
    rw [show ((0 : Nat) : Int) = 0 from rfl] at this
    rw [this]
    by_cases h : ∀ j, j < ks.length → kAt p ks j
    · rw [if_pos (fun j _ h2 => h j h2), decide_eq_true ⟨hl, h⟩]; rfl
    · rw [if_neg (fun hh => h (fun j h2 => hh j (Nat.zero_le _) h2)), decide_eq_false (fun hh => h hh.2)]
  · rw [show decide ((ks.length : Int) > 200) = true by simp; omega, cond_true, decide_eq_false (fun hh => hl hh.1)]
theorem knowOk_eq {k : Nat} (hk : K0 ≤ k) (p : List Nd) (ks : List Int) (hp : p.length ≤ 3000000) (hks : ks.length ≤ 3000000) : F_spec_KnowOk k p ks = some (poolOk p && knowOk p ks) := by
  unfold F_spec_KnowOk
  rw [poolOk_eq hk, Option.bind_some, l6Know_eq hk p ks hp hks]
  cases poolOk p <;> rfl
theorem iknow_L (k : Nat) (p : List Nd) (ks : List Int) (e : Unit → Option Bool) : ∀ (n : Nat) (i : Int), F_impl_KnowOk_L2 k p ks e n i = F_spec_l6Know_L3 k p ks e n i
  | 0, i => rfl
  | n + 1, i => by
    unfold F_impl_KnowOk_L2 F_spec_l6Know_L3
    have ih : F_impl_KnowOk_L2 k p ks e n = F_spec_l6Know_L3 k p ks e n := funext (iknow_L k p ks e n)
    rw [ih]
    cases decide (i < (ks.length : Int))
    · rfl
    simp only [cond_true]
    cases ha : at? ks i with
    | none => rfl
    | some x =>
      simp only [Option.bind_some]
      rfl
open Classical in
theorem iKnowOk_eq {k : Nat} (hk : K0 ≤ k) (p : List Nd) (ks : List Int) (hp : p.length ≤ 3000000) (hks : ks.length ≤ 3000000) : F_impl_KnowOk k p ks = some (poolOk p && knowOk p ks) := by
  unfold F_impl_KnowOk knowOk
  rw [iknow_L]
  have := know_L k p ks hp hks (F_impl_KnowOk_J1 k p ks) k 0 (by simp only [K0] at hk; omega)
  rw [show ((0 : Nat) : Int) = 0 from rfl] at this
  rw [this]
  unfold F_impl_KnowOk_J1
  rw [iPoolOk_eq hk]
  by_cases hl : ks.length ≤ 200
  · rw [show decide ((ks.length : Int) ≤ 200) = true by simp; omega, cond_true]
    by_cases h : ∀ j, j < ks.length → kAt p ks j
    · rw [if_pos (fun j _ h2 => h j h2), decide_eq_true ⟨hl, h⟩]; cases poolOk p <;> rfl
    · rw [if_neg (fun hh => h (fun j h2 => hh j (Nat.zero_le _) h2)), decide_eq_false (fun hh => h hh.2)]; cases poolOk p <;> rfl
  · rw [show decide ((ks.length : Int) ≤ 200) = false by simp; omega, cond_false, decide_eq_false (fun hh => hl hh.1)]
    split <;> cases poolOk p <;> rfl
def linkB (p : List Nd) (a t n : Int) : Bool := hasB p a && (inB t 0 20 && inB n 0 20)
theorem link_eq (k : Nat) (p : List Nd) (a t n : Int) (d : Bool) (hp : p.length ≤ 3000000) : F_spec_l18Link k p a t n d = some (linkB p a t n) := by
  unfold F_spec_l18Link linkB
  simp only [has_eq k p _ hp, in_eq, Option.bind_some]
  cases hasB p a <;> cases inB t 0 20 <;> rfl
theorem linkOk_eq {k : Nat} (hk : K0 ≤ k) (p : List Nd) (a t n : Int) (d : Bool) (hp : p.length ≤ 3000000) : F_spec_LinkOk k p a t n d = some (poolOk p && linkB p a t n) := by
  unfold F_spec_LinkOk
  simp only [poolOk_eq hk, link_eq k p _ _ _ _ hp, Option.bind_some]
  cases poolOk p <;> rfl
theorem iLinkOk_eq {k : Nat} (hk : K0 ≤ k) (p : List Nd) (a t n : Int) (d : Bool) (hp : p.length ≤ 3000000) : F_impl_LinkOk k p a t n d = some (poolOk p && linkB p a t n) := by
  unfold F_impl_LinkOk linkB
  simp only [isTerm_eq k p _ hp, inRange_eq, iPoolOk_eq hk, Option.bind_some]
  cases hasB p a <;> cases inB t 0 20 <;> cases inB n 0 20 <;> cases poolOk p <;> rfl
open Classical in
noncomputable def termsB (p : List Nd) (ts : List Int) : Bool := decide (ts.length ≤ 60 ∧ ∀ (j : Nat) (x : Int), ts[j]? = some x → hasB p x = true)
open Classical in
theorem terms_L (k : Nat) (p : List Nd) (ts : List Int) (hp : p.length ≤ 3000000) (hts : ts.length ≤ 3000000) (e : Unit → Option Bool) : ∀ (n i : Nat), ts.length - i < n →
    F_spec_l19Terms_L2 k p ts e n (i : Int) = if ∀ (j : Nat) (x : Int), i ≤ j → ts[j]? = some x → hasB p x = true then e () else some false
  | 0, i, h => absurd h (by omega)
  | n + 1, i, h => by
    unfold F_spec_l19Terms_L2
    by_cases hl : i < ts.length
    · have hg : ts[i]? = some ts[i] := List.getElem?_eq_getElem hl
      rw [dlt hl, cond_true, at?_lt _ _ hl, Option.bind_some, has_eq _ _ _ hp, Option.bind_some, w64_succ (by omega), terms_L k p ts hp hts e n (i + 1) (by omega)]
      by_cases hr : hasB p ts[i] = true
      · rw [hr, Bool.not_true, cond_false]
        congr 1
        refine propext ⟨fun hh j x h1 h2 => ?_, fun hh j x h1 h2 => hh j x (by omega) h2⟩
        rcases Nat.eq_or_lt_of_le h1 with h1 | h1
        · subst h1; rw [hg] at h2; cases h2; exact hr
        · exact hh j x h1 h2
      · rw [Bool.not_eq_true] at hr
        rw [hr, Bool.not_false, cond_true, if_neg]
        intro hh
        have := hh i _ (Nat.le_refl _) hg
        rw [hr] at this; cases this
    · rw [dge hl, cond_false, if_pos]
      intro j x h1 h2
      rw [List.getElem?_eq_none (by omega)] at h2; cases h2
open Classical in
theorem terms_eq {k : Nat} (hk : K0 ≤ k) (p : List Nd) (ts : List Int) (hp : p.length ≤ 3000000) (hts : ts.length ≤ 3000000) : F_spec_l19Terms k p ts = some (termsB p ts) := by
  unfold F_spec_l19Terms termsB
  have := terms_L k p ts hp hts (F_spec_l19Terms_J1 k ts) k 0 (by simp only [K0] at hk; omega)
  rw [show ((0 : Nat) : Int) = 0 from rfl] at this
  rw [this]
  unfold F_spec_l19Terms_J1
  by_cases h : ∀ (j : Nat) (x : Int), ts[j]? = some x → hasB p x = true
  · rw [if_pos (fun j x _ h2 => h j x h2)]
    by_cases hl : ts.length ≤ 60
    · rw [decide_eq_true (p := ts.length ≤ 60 ∧ _) ⟨hl, h⟩, decide_eq_true (by omega)]
    · rw [decide_eq_false (p := ts.length ≤ 60 ∧ _) (fun hh => hl hh.1), decide_eq_false (by omega)]
  · rw [if_neg (fun hh => h (fun j x h2 => hh j x (Nat.zero_le _) h2)), decide_eq_false (fun hh => h hh.2)]
theorem iterms_L (k : Nat) (p : List Nd) (ts : List Int) (e : Unit → Option Bool) : ∀ (n : Nat) (i : Int), F_impl_Stream_termsOk_L2 k ts p e n i = F_spec_l19Terms_L2 k p ts e n i
  | 0, i => rfl
  | n + 1, i => by
    unfold F_impl_Stream_termsOk_L2 F_spec_l19Terms_L2
    have ih : F_impl_Stream_termsOk_L2 k ts p e n = F_spec_l19Terms_L2 k p ts e n := funext (iterms_L k p ts e n)
    rw [ih]
    rfl
theorem iterms_eq {k : Nat} (hk : K0 ≤ k) (p : List Nd) (ts a3 : List Int) (a4 a5 a6 : Int) (a7 : Bool) (a8 a9 a10 : Int) (a11 : Bool) (a12 a13 : List Int) (hp : p.length ≤ 3000000) (hts : ts.length ≤ 3000000) :
    F_impl_Stream_termsOk k ts p a3 a4 a5 a6 a7 a8 a9 a10 a11 a12 a13 = some (termsB p ts) := by
  unfold F_impl_Stream_termsOk
  rw [iterms_L]
  exact terms_eq hk p ts hp hts
noncomputable def streamOk (p : List Nd) (ks : List Int) (a t n a' t' n' : Int) (s h : List Int) : Bool := poolOk p && (knowOk p ks && (linkB p a t n && (linkB p a' t' n' && (termsB p s && termsB p h))))
theorem streamOk_eq {k : Nat} (hk : K0 ≤ k) (p : List Nd) (ks : List Int) (a t n : Int) (d : Bool) (a' t' n' : Int) (d' : Bool) (s h : List Int) (hp : p.length ≤ 3000000) (hks : ks.length ≤ 3000000) (hs : s.length ≤ 3000000) (hh : h.length ≤ 3000000) :
    F_spec_StreamOk k p ks a t n d a' t' n' d' s h = some (streamOk p ks a t n a' t' n' s h) := by
  unfold F_spec_StreamOk streamOk
  simp only [knowOk_eq hk p ks hp hks, link_eq k p _ _ _ _ hp, terms_eq hk p s hp hs, terms_eq hk p h hp hh, Option.bind_some]
  cases poolOk p <;> cases knowOk p ks <;> cases linkB p a t n <;> cases linkB p a' t' n' <;> cases termsB p s <;> cases termsB p h <;> rfl
theorem iStreamOk_eq {k : Nat} (hk : K0 ≤ k) (p : List Nd) (ks : List Int) (a t n : Int) (d : Bool) (a' t' n' : Int) (d' : Bool) (s h : List Int) (hp : p.length ≤ 3000000) (hks : ks.length ≤ 3000000) (hs : s.length ≤ 3000000) (hh : h.length ≤ 3000000) :
    F_impl_StreamOk k p ks a t n d a' t' n' d' s h = some (streamOk p ks a t n a' t' n' s h) := by
  unfold F_impl_StreamOk streamOk
  simp only [iKnowOk_eq hk p ks hp hks, iLinkOk_eq hk p _ _ _ _ hp, iterms_eq hk p s _ _ _ _ _ _ _ _ _ _ _ hp hs, iterms_eq hk p h _ _ _ _ _ _ _ _ _ _ _ hp hh, Option.bind_some]
  cases poolOk p <;> cases knowOk p ks <;> cases linkB p a t n <;> cases linkB p a' t' n' <;> cases termsB p s <;> cases termsB p h <;> rfl
end Go.Proofs.YtmbbapeiikifgaaGreatDoor
