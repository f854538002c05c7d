/- Plain laws, third part: what is put among what is known; what a link takes. -/
import Derived.Test.YtmbbapeiikifgaaGreatDoorPb
set_option linter.all false
namespace Go.Proofs.YtmbbapeiikifgaaGreatDoor
open Go
theorem khas_L (k : Nat) (ks : List Int) (r : Int) (e : Unit → Option Bool) (he : e () = some false) (hks : ks.length ≤ 3000000) : ∀ (n i : Nat), ks.length - i < n → F_spec_KnowHas_L2 k ks r e n (i : Int) = some (decide (r ∈ ks.drop i))
  | 0, i, h => absurd h (by omega)
  | n + 1, i, h => by
    unfold F_spec_KnowHas_L2
    by_cases hl : i < ks.length
    · rw [dlt hl, cond_true, at?_lt _ _ hl, Option.bind_some, w64_succ (by omega), khas_L k ks r e he hks n (i + 1) (by omega), List.drop_eq_getElem_cons hl, beqI]
      by_cases hx : ks[i] = r
      · simp [hx]
      · rw [decide_eq_false hx, cond_false]; simp only [List.mem_cons, Ne.symm hx, false_or]
    · rw [dge hl, cond_false, he, List.drop_eq_nil_of_le (by omega)]; simp
theorem khas_eq {k : Nat} (hk : K0 ≤ k) (ks : List Int) (r : Int) (hks : ks.length ≤ 3000000) : F_spec_KnowHas k ks r = some (decide (r ∈ ks)) := by
  unfold F_spec_KnowHas
  have := khas_L k ks r (F_spec_KnowHas_J1 k) rfl hks k 0 (by simp only [K0] at hk; omega)
  simpa using this
def insL (r : Int) : List Int → List Int
  | [] => [r]
  | x :: xs => if x > r then r :: x :: xs else x :: insL r xs
theorem insL_length (r : Int) : ∀ ks, (insL r ks).length = ks.length + 1
  | [] => rfl
  | x :: xs => by unfold insL; split <;> simp [insL_length r xs]
def putK (r : Int) (ks : List Int) : List Int := if r ∈ ks then ks else insL r ks
theorem l6Put_L (k : Nat) (ks : List Int) (r : Int) (hks : ks.length ≤ 3000000) : ∀ (n i : Nat) (has : Bool) (out : List Int), ks.length - i < n → out.length ≤ 2 * i + 1 → i ≤ ks.length →
    F_spec_l6Put_L3 k ks r (F_spec_l6Put_J2 k r) n (has, ((i : Int), out)) = some (out ++ if has = true then ks.drop i else insL r (ks.drop i))
  | 0, i, has, out, h, _, _ => absurd h (by omega)
  | n + 1, i, has, out, h, ho, hi => by
    unfold F_spec_l6Put_L3 F_spec_l6Put_J16 F_spec_l6Put_J19
    simp only []
    by_cases hl : i < ks.length
    · rw [dlt hl, cond_true, at?_lt _ _ hl, w64_succ (by omega), List.drop_eq_getElem_cons hl]
      simp only [Option.bind_some]
      cases has
      · rw [Bool.not_false, cond_true]
        by_cases hx : ks[i] > r
        · rw [decide_eq_true hx, cond_true, if_pos (by simp; omega), if_pos (by simp; omega)]
          rw [l6Put_L k ks r hks n (i + 1) true _ (by omega) (by simp; omega) (by omega)]
          simp [insL, hx]
        · rw [decide_eq_false hx, cond_false, if_pos (by simp; omega), l6Put_L k ks r hks n (i + 1) false _ (by omega) (by simp; omega) (by omega)]
          simp [insL, hx]
      · rw [Bool.not_true, cond_false, cond_false, if_pos (by simp; omega), l6Put_L k ks r hks n (i + 1) true _ (by omega) (by simp; omega) (by omega)]
        simp
    · rw [dge hl, cond_false, List.drop_eq_nil_of_le (by omega)]
      unfold F_spec_l6Put_J2 F_spec_l6Put_J23
      cases has
      · simp only [Bool.not_false, cond_true]; rw [if_pos (by simp; omega)]; simp [insL]
      · simp
theorem l6Put_eq {k : Nat} (hk : K0 ≤ k) (ks : List Int) (r : Int) (hks : ks.length ≤ 3000000) : F_spec_l6Put k ks r = some (putK r ks) := by
  unfold F_spec_l6Put putK
  rw [khas_eq hk ks r hks, Option.bind_some]
  have := l6Put_L k ks r hks k 0 (decide (r ∈ ks)) [] (by simp only [K0] at hk; omega) (by simp) (by omega)
  rw [show ((0 : Nat) : Int) = 0 from rfl] at this
  rw [this]; simp
def Srt (ks : List Int) : Prop := ∀ (i j : Nat) (x y : Int), i < j → ks[i]? = some x → ks[j]? = some y → x < y
open Classical in
theorem knowOk_srt {p : List Nd} {ks : List Int} (h : knowOk p ks = true) : Srt ks := by
  unfold knowOk at h
  have h := (of_decide_eq_true h).2
  intro i j
  induction j with
  | zero => intro x y hij; omega
  | succ j ih =>
    intro x y hij hx hy
    obtain ⟨z, hz, _, h3⟩ := h (j + 1) (List.getElem?_eq_some_iff.1 hy).1
    rw [hy] at hz; cases hz
    have hjl : j < ks.length := by have := (List.getElem?_eq_some_iff.1 hy).1; omega
    have hj : ks[j]? = some ks[j] := List.getElem?_eq_getElem hjl
    have := h3 j _ rfl hj
    rcases Nat.eq_or_lt_of_le (Nat.le_of_lt_succ hij) with e | e
    · subst e; rw [hj] at hx; cases hx; exact this
    · have := ih x _ e hx hj; omega
open Classical in
theorem knowOk_has {p : List Nd} {ks : List Int} (h : knowOk p ks = true) {x : Int} (hx : x ∈ ks) : hasB p x = true := by
  unfold knowOk at h
  have h := (of_decide_eq_true h).2
  obtain ⟨i, hi, rfl⟩ := List.getElem_of_mem hx
  obtain ⟨y, hy, h2, _⟩ := h i hi
  rw [List.getElem?_eq_getElem hi] at hy; cases hy; exact h2
open Classical in
theorem knowOk_len {p : List Nd} {ks : List Int} (h : knowOk p ks = true) : ks.length ≤ 200 := by
  unfold knowOk at h
  exact (of_decide_eq_true h).1
structure Lob (ks : List Int) (r : Int) (m : Nat) : Prop where
  le : m ≤ ks.length
  lo : ∀ (t : Nat) (x : Int), t < m → ks[t]? = some x → x < r
  hi : ∀ (t : Nat) (x : Int), m ≤ t → ks[t]? = some x → r ≤ x
theorem wu64_id {x : Int} (h0 : 0 ≤ x) (h1 : x < 18446744073709551616) : IntKind.u64.wrap x = x := by
  unfold IntKind.wrap; simp [IntKind.bits, IntKind.signed]; omega
theorem less_eq (k : Nat) (a b : Int) : F_cmp_Less_int k a b = some (decide (a < b)) := by
  unfold F_cmp_Less_int F_cmp_isNaN_int; simp
theorem bs_L (k : Nat) (ks : List Int) (r : Int) (hs : Srt ks) (hks : ks.length ≤ 3000000) (e : Int → Option (Int × Bool)) : ∀ (n i j : Nat), j - i < n → i ≤ j → j ≤ ks.length →
    (∀ (t : Nat) (x : Int), t < i → ks[t]? = some x → x < r) → (∀ (t : Nat) (x : Int), j ≤ t → ks[t]? = some x → r ≤ x) →
    ∃ m, Lob ks r m ∧ F_slices_BinarySearch_int_int_L2 k ks r e n ((i : Int), (j : Int)) = e (m : Int)
  | 0, i, j, h, _, _, _, _ => absurd h (by omega)
  | n + 1, i, j, h, hij, hj, hlo, hhi => by
    unfold F_slices_BinarySearch_int_int_L2
    simp only []
    by_cases hl : i < j
    · have hm : (i + j) / 2 < ks.length := by omega
      have e1 : IntKind.i64.wrap (Int.fdiv (IntKind.u64.wrap (w64 ((i : Int) + (j : Int)))) 2) = (((i + j) / 2 : Nat) : Int) := by
        rw [w64_id (by omega) (by omega), wu64_id (by omega) (by omega), Int.fdiv_eq_ediv_of_nonneg _ (by omega), IntKind.wrap_i64]; omega
      rw [dlt hl, cond_true, e1, at?_lt _ _ hm, Option.bind_some, less_eq, Option.bind_some, w64_succ (by omega)]
      have hg : ks[(i + j) / 2]? = some ks[(i + j) / 2] := List.getElem?_eq_getElem hm
      by_cases hx : ks[(i + j) / 2] < r
      · rw [decide_eq_true hx, cond_true]
        refine bs_L k ks r hs hks e n _ j (by omega) (by omega) hj (fun t x ht hxt => ?_) hhi
        rcases Nat.eq_or_lt_of_le (Nat.le_of_lt_succ ht) with h1 | h1
        · subst h1; rw [hg] at hxt; cases hxt; exact hx
        · have := hs t _ x _ h1 hxt hg; omega
      · rw [decide_eq_false hx, cond_false]
        refine bs_L k ks r hs hks e n i _ (by omega) (by omega) (by omega) hlo (fun t x ht hxt => ?_)
        rcases Nat.eq_or_lt_of_le ht with h1 | h1
        · subst h1; rw [hg] at hxt; cases hxt; omega
        · have := hs _ t _ x h1 hg hxt; omega
    · rw [dge hl, cond_false]
      have : i = j := by omega
      subst this
      exact ⟨i, ⟨hj, hlo, hhi⟩, rfl⟩
theorem insL_at (r : Int) : ∀ (ks : List Int) (m : Nat), Lob ks r m → r ∉ ks → insL r ks = ks.take m ++ [r] ++ ks.drop m
  | [], m, _, _ => by simp [insL]
  | x :: xs, 0, h, hn => by
    have := h.hi 0 x (Nat.le_refl _) rfl
    have : x ≠ r := fun e => hn (by simp [e])
    simp [insL, show x > r by omega]
  | x :: xs, m + 1, h, hn => by
    have := h.lo 0 x (by omega) rfl
    have ih := insL_at r xs m ⟨by have := h.le; simp at this; omega, fun t y ht hy => h.lo (t + 1) y (by omega) (by simpa using hy), fun t y ht hy => h.hi (t + 1) y (by omega) (by simpa using hy)⟩ (fun hh => hn (by simp [hh]))
    simp [insL, show ¬ x > r by omega, ih]
def kputP (r : Int) (ks : List Int) : Bool × List Int := if r ∈ ks then (true, ks) else if ks.length ≥ 200 then (false, ks) else (true, insL r ks)
theorem knowPut_eq {k : Nat} (hk : K0 ≤ k) (ks : List Int) (r : Int) (hs : Srt ks) (hks : ks.length ≤ 3000000) : F_impl_knowPut_f72a k r ks = some (kputP r ks) := by
  unfold F_impl_knowPut_f72a F_slices_BinarySearch_int_int kputP
  obtain ⟨m, hm, e1⟩ := bs_L k ks r hs hks (F_slices_BinarySearch_int_int_J1 k ks r) k 0 ks.length (by simp only [K0] at hk; omega) (by omega) (Nat.le_refl _) (fun t x h => by omega) (fun t x h hx => by rw [List.getElem?_eq_none h] at hx; cases hx)
  rw [show ((0 : Nat) : Int) = 0 from rfl] at e1
  rw [e1]
  unfold F_slices_BinarySearch_int_int_J1
  by_cases hmem : r ∈ ks
  · obtain ⟨i, hi, hr⟩ := List.getElem_of_mem hmem
    have hgi : ks[i]? = some r := by rw [List.getElem?_eq_getElem hi, hr]
    have him : i = m := by
      rcases Nat.lt_trichotomy i m with h | h | h
      · have := hm.lo i r h hgi; omega
      · exact h
      · have hml : m < ks.length := by omega
        have hgm : ks[m]? = some ks[m] := List.getElem?_eq_getElem hml
        have h1 := hm.hi m _ (Nat.le_refl _) hgm
        have h2 := hs m i _ r h hgm hgi
        omega
    subst him
    rw [dlt hi, cond_true, at?_lt _ _ hi, Option.bind_some, hr, if_pos hmem]
    simp
  · rw [if_neg hmem]
    have e2 : (bif decide ((m : Int) < (ks.length : Int)) then (at? ks (m : Int)).bind fun x17 => bif x17 == r then some ((m : Int), true) else (at? ks (m : Int)).bind fun x18 => (F_slices_isNaN_int k x18).bind fun r19 => bif x18 != x18 then (F_slices_isNaN_int k r).bind fun r20 => some ((m : Int), r != r) else some ((m : Int), false) else some ((m : Int), false)) = some ((m : Int), false) := by
      by_cases hl : m < ks.length
      · have : ks[m] ≠ r := fun e => hmem (e ▸ List.getElem_mem hl)
        rw [dlt hl, cond_true, at?_lt _ _ hl, Option.bind_some, beqI, decide_eq_false this, cond_false, Option.bind_some]
        unfold F_slices_isNaN_int; simp
      · rw [dge hl, cond_false]
    rw [e2, Option.bind_some]
    simp only [cond_false]
    by_cases hl : ks.length ≥ 200
    · rw [decide_eq_true (by omega), cond_true, if_pos hl]
    · rw [decide_eq_false (by omega), cond_false, if_neg hl]
      unfold F_slices_Insert_int
      rw [if_pos ⟨by omega, by have := hm.le; omega, by simp, by simp; omega⟩, Option.bind_some, insL_at r ks m hm hmem]; simp
def hearP (v : Int) (ks : List Int) : Bool × List Int := if v < 0 then (false, ks) else kputP v ks
theorem hear_eq {k : Nat} (hk : K0 ≤ k) (v : Int) (a2 a3 a4 : Int) (a5 : Bool) (a6 a7 a8 : Int) (a9 : Bool) (a10 : List Nd) (ks a12 a13 : List Int) (hs : Srt ks) (hks : ks.length ≤ 3000000) : F_impl_Stream_heard_65c4 k v a2 a3 a4 a5 a6 a7 a8 a9 a10 ks a12 a13 = some (hearP v ks) := by
  unfold F_impl_Stream_heard_65c4 hearP
  rw [knowPut_eq hk ks v hs hks]
  by_cases h : v < 0
  · rw [dneg h, cond_true, if_pos h]
  · rw [dnneg h, cond_false, if_neg h]; rfl
theorem shear_eq {k : Nat} (hk : K0 ≤ k) (v : Int) (a1 : List Nd) (a3 a4 a5 : Int) (a6 : Bool) (a7 a8 a9 : Int) (a10 : Bool) (ks a11 a12 : List Int) (hks : ks.length ≤ 200) :
    ∃ q, F_spec_l19Hear k a1 ks a3 a4 a5 a6 a7 a8 a9 a10 a11 a12 v = some q ∧ q.2 = (hearP v ks).1 ∧ (q.2 = true → q.1 = (hearP v ks).2) := by
  unfold F_spec_l19Hear hearP
  by_cases h : v < 0
  · rw [dneg h, cond_true, if_pos h]; exact ⟨_, rfl, rfl, fun h => by cases h⟩
  · rw [dnneg h, cond_false, if_neg h, l6Put_eq hk ks v (by omega), Option.bind_some]
    refine ⟨_, rfl, ?_, ?_⟩
    all_goals simp only [kputP, putK]
    all_goals by_cases hm : v ∈ ks
    · simp only [if_pos hm, decide_eq_true_eq]; omega
    · simp only [if_neg hm, insL_length]
      by_cases hl : ks.length ≥ 200
      · simp only [if_pos hl, decide_eq_false_iff_not]; omega
      · simp only [if_neg hl, decide_eq_true_eq]; omega
    · simp only [if_pos hm, implies_true]
    · simp only [if_neg hm, insL_length]
      by_cases hl : ks.length ≥ 200
      · simp only [if_pos hl, decide_eq_true_eq]; omega
      · simp only [if_neg hl, implies_true]
theorem hearP_len {v : Int} {ks : List Int} (h : ks.length ≤ 200) : (hearP v ks).2.length ≤ 200 := by
  unfold hearP kputP
  split
  · exact h
  · split
    · exact h
    · split
      · exact h
      · simp only [insL_length]; omega
open Classical in
theorem knowOk_mk {p : List Nd} {ks : List Int} (hl : ks.length ≤ 200) (hs : Srt ks) (hh : ∀ x ∈ ks, hasB p x = true) : knowOk p ks = true := by
  unfold knowOk
  refine decide_eq_true ⟨hl, fun j hj => ⟨ks[j], List.getElem?_eq_getElem hj, hh _ (List.getElem_mem hj), fun i y h1 h2 => hs i j _ _ (by omega) h2 (List.getElem?_eq_getElem hj)⟩⟩
theorem mem_insL {r x : Int} : ∀ {ks : List Int}, x ∈ insL r ks ↔ x = r ∨ x ∈ ks
  | [] => by simp [insL]
  | y :: ys => by
    unfold insL
    split
    · simp
    · simp only [List.mem_cons, mem_insL (ks := ys)]
      constructor
      · rintro (h | h | h)
        · exact .inr (.inl h)
        · exact .inl h
        · exact .inr (.inr h)
      · rintro (h | h | h)
        · exact .inr (.inl h)
        · exact .inl h
        · exact .inr (.inr h)
theorem srt_iff {ks : List Int} : Srt ks ↔ ks.Pairwise (· < ·) := by
  rw [List.pairwise_iff_getElem]
  refine ⟨fun h i j hi hj hij => h i j _ _ hij (List.getElem?_eq_getElem hi) (List.getElem?_eq_getElem hj), fun h i j x y hij hx hy => ?_⟩
  obtain ⟨hi, rfl⟩ := List.getElem?_eq_some_iff.1 hx
  obtain ⟨hj, rfl⟩ := List.getElem?_eq_some_iff.1 hy
  exact h i j hi hj hij
theorem insL_pw {r : Int} : ∀ {ks : List Int}, ks.Pairwise (· < ·) → r ∉ ks → (insL r ks).Pairwise (· < ·)
  | [], _, _ => by simp [insL]
  | y :: ys, h, hn => by
    rw [List.pairwise_cons] at h
    have hne : y ≠ r := fun e => hn (by simp [e])
    unfold insL
    split
    · rename_i hy
      rw [List.pairwise_cons, List.pairwise_cons]
      refine ⟨fun z hz => ?_, h⟩
      rcases List.mem_cons.1 hz with rfl | hz
      · exact hy
      · have := h.1 z hz; omega
    · rw [List.pairwise_cons]
      refine ⟨fun z hz => ?_, insL_pw h.2 (fun hh => hn (List.mem_cons_of_mem _ hh))⟩
      rcases mem_insL.1 hz with rfl | hz
      · omega
      · exact h.1 z hz
theorem hasB_mono {p P : List Nd} {v : Int} (h : hasB p v = true) (hl : p.length ≤ P.length) : hasB P v = true := by
  rw [hasB_iff] at *; omega
theorem hear_ok {p P : List Nd} {ks : List Int} {v : Int} (h : (hearP v ks).1 = true) : 0 ≤ v ∧ (hasB P v = true → knowOk p ks = true → p.length ≤ P.length → knowOk P (hearP v ks).2 = true) := by
  unfold hearP at h ⊢
  split at h
  · cases h
  · rename_i hv
    refine ⟨by omega, fun hP hk hl => ?_⟩
    rw [if_neg hv]
    have old : ∀ x ∈ ks, hasB P x = true := fun x hx => hasB_mono (knowOk_has hk hx) hl
    have hlen := knowOk_len hk
    unfold kputP at h ⊢
    split
    · exact knowOk_mk hlen (knowOk_srt hk) old
    · rename_i hm
      rw [if_neg hm] at h
      split at h
      · cases h
      · rename_i h2
        rw [if_neg h2]
        refine knowOk_mk (by rw [insL_length]; omega) (srt_iff.2 (insL_pw (srt_iff.1 (knowOk_srt hk)) hm)) fun x hx => ?_
        rcases mem_insL.1 hx with rfl | hx
        · exact hP
        · exact old x hx
theorem right2 {x : Nd} {n : Nat} (h : rightB x n = true) (hp : parts x.1 = 2) : (0 ≤ x.2.1 ∧ x.2.1 < n) ∧ (0 ≤ x.2.2 ∧ x.2.2 < n) := by
  unfold rightB inB at h
  simp [hp] at h; omega
theorem right1 {x : Nd} {n : Nat} (h : rightB x n = true) (hp : parts x.1 = 1) : 0 ≤ x.2.1 ∧ x.2.1 < n := by
  unfold rightB inB at h
  simp [hp] at h; omega
theorem has_at {p : List Nd} {v : Int} (h : hasB p v = true) : ∃ x, at? p v = some x ∧ ∃ i : Nat, v = (i : Int) ∧ p[i]? = some x := by
  obtain ⟨h1, h2⟩ := hasB_iff.1 h
  obtain ⟨i, rfl⟩ := Int.eq_ofNat_of_zero_le h1
  exact ⟨p[i]'(by omega), at?_lt p i (by omega), i, rfl, List.getElem?_eq_getElem (by omega)⟩
theorem right_has {p : List Nd} (hg : AllRight p) {i : Nat} {x : Nd} (hx : p[i]? = some x) : (parts x.1 = 2 → hasB p x.2.1 = true ∧ hasB p x.2.2 = true) ∧ (parts x.1 = 1 → hasB p x.2.1 = true) := by
  have hr := hg.at hx
  have hi := (List.getElem?_eq_some_iff.1 hx).1
  refine ⟨fun h => ?_, fun h => ?_⟩
  · have := right2 hr h; exact ⟨hasB_iff.2 (by omega), hasB_iff.2 (by omega)⟩
  · have := right1 hr h; exact hasB_iff.2 (by omega)
theorem takeL_eq {k : Nat} (hk : K0 ≤ k) (p : List Nd) (id t n v : Int) (d : Bool) (hp : p.length ≤ 3000000) :
    ∃ R, F_spec_LinkTake k p id t n d v = some R ∧ F_impl_LinkTake k p id t n d v = some R ∧ (R.2.2.2 = 0 → linkB p id t R.1 = true ∧ (0 ≤ R.2.2.1 → hasB p R.2.2.1 = true)) := by
  unfold F_spec_LinkTake F_impl_LinkTake
  rw [linkOk_eq hk _ _ _ _ _ hp, iLinkOk_eq hk _ _ _ _ _ hp, has_eq _ _ _ hp, isTerm_eq _ _ _ hp]
  simp only [Option.bind_some]
  unfold F_spec_LinkTake_J2 F_impl_LinkTake_J2
  cases hok : poolOk p && linkB p id t n
  · simp only [Bool.not_false, cond_true]
    refine ⟨_, rfl, ?_, fun h => absurd h (show ¬ (4 : Int) = 0 by decide)⟩
    cases hasB p v <;> rfl
  cases hh : hasB p v
  · simp only [Bool.not_true, Bool.not_false, cond_true, cond_false]; exact ⟨_, rfl, rfl, fun h => absurd h (show ¬ (4 : Int) = 0 by decide)⟩
  simp only [Bool.not_true, cond_false]
  cases d
  rotate_left
  · simp only [cond_true]; exact ⟨_, rfl, rfl, fun h => absurd h (show ¬ (3 : Int) = 0 by decide)⟩
  simp only [Bool.and_eq_true] at hok
  have hg := poolOk_right hok.1
  have hl := hok.2
  unfold linkB inB at hl
  simp only [Bool.and_eq_true, decide_eq_true_eq] at hl
  obtain ⟨x8, e8, i8, _, h8⟩ := has_at hh
  rw [e8]
  simp only [cond_false, Option.bind_some]
  unfold F_spec_LinkTake_J9 F_impl_LinkTake_J9
  by_cases h3 : x8.1 = 3
  rotate_left
  · rw [bneI, decide_eq_false h3, Bool.not_false, cond_true, cond_true, cond_true]; exact ⟨_, rfl, rfl, fun h => absurd h (show ¬ (1 : Int) = 0 by decide)⟩
  rw [bneI x8.1, decide_eq_true h3, Bool.not_true, cond_false, cond_false]
  by_cases hid : x8.2.2 = id
  rotate_left
  · rw [bneI, decide_eq_false hid, Bool.not_false, cond_true, cond_true, cond_true]; exact ⟨_, rfl, rfl, fun h => absurd h (show ¬ (1 : Int) = 0 by decide)⟩
  rw [bneI x8.2.2, decide_eq_true hid, Bool.not_true, cond_false, cond_false]
  obtain ⟨x10, e10, i10, _, h10⟩ := has_at ((right_has hg h8).1 (by rw [h3]; rfl)).1
  rw [e10]
  simp only [Option.bind_some]
  by_cases h2 : x10.1 = 2
  rotate_left
  · rw [bneI, decide_eq_false h2, Bool.not_false, cond_true, cond_true]; exact ⟨_, rfl, rfl, fun h => absurd h (show ¬ (1 : Int) = 0 by decide)⟩
  rw [bneI x10.1, decide_eq_true h2, Bool.not_true, cond_false, cond_false]
  obtain ⟨ha, hb⟩ := (right_has hg h10).1 (by rw [h2]; rfl)
  have en := isName_eq k p x10.2.1 (w64 (20 + n)) ha
  have ee := end_eq k p x10.2.2 hb
  have ee' := isName_eq k p x10.2.2 8 hb
  unfold F_spec_LinkTake_J14 F_impl_LinkTake_J14
  rw [en, ee, ee', beqI n 20]
  unfold F_impl_Pool_isName at en
  obtain ⟨x15, e15, _⟩ := has_at ha
  rw [e15, Option.bind_some] at en
  rw [e15]
  simp only [Option.bind_some]
  rw [Option.some.inj en]
  cases nameAt p x10.2.1 (w64 (20 + n)) <;> by_cases hn : n = 20 <;> simp only [hn, decide_true, decide_false, Bool.not_true, Bool.not_false, cond_true, cond_false]
  · exact ⟨_, rfl, rfl, fun h => absurd h (show ¬ (2 : Int) = 0 by decide)⟩
  · exact ⟨_, rfl, rfl, fun h => absurd h (show ¬ (2 : Int) = 0 by decide)⟩
  · exact ⟨_, rfl, rfl, fun h => absurd h (show ¬ (2 : Int) = 0 by decide)⟩
  · cases nameAt p x10.2.2 8
    · refine ⟨_, rfl, rfl, fun _ => ⟨?_, fun _ => hb⟩⟩
      show linkB p id t (w64 (n + 1)) = true
      rw [w64_id (by omega) (by omega)]
      unfold linkB inB
      simp only [Bool.and_eq_true, decide_eq_true_eq]
      exact ⟨hl.1, hl.2.1, by omega, by omega⟩
    · exact ⟨_, rfl, rfl, fun _ => ⟨hok.2, fun h => absurd h (show ¬ (0 : Int) ≤ -1 by decide)⟩⟩
end Go.Proofs.YtmbbapeiikifgaaGreatDoor
