/- Plain laws, second part: adding to a pool, words, links. -/
import Derived.Test.YtmbbapeiikifgaaGreatDoorPa
set_option linter.all false
namespace Go.Proofs.YtmbbapeiikifgaaGreatDoor
open Go
theorem neg1 : (-1 : Int) < 0 := by decide
def norm (t a b : Int) : Nd := if t = 8 ∧ b < a then (8, (b, a)) else (t, (a, b))
def addX (p : List Nd) (x : Nd) : List Nd × Int :=
  if 0 ≤ fnd p x then (p, fnd p x) else if rightB x p.length = true ∧ p.length ≠ 500 then (p ++ [x], (p.length : Int)) else (p, -1)
def addP (p : List Nd) (t a b : Int) : List Nd × Int := addX p (norm t a b)
def Good (p : List Nd) : Prop := p.length ≤ 500 ∧ AllRight p
theorem addJ3_eq {k : Nat} (hk : K0 ≤ k) (p : List Nd) (t a b : Int) (hp : p.length ≤ 500) : F_spec_l1Add_J3 k p t (a, b) = some (addX p (t, (a, b))) := by
  unfold F_spec_l1Add_J3 F_spec_l1Add_J7 addX
  have hr := right_eq k (t, (a, b)) p.length (by omega)
  simp only [] at hr
  simp only [find_eq hk p _ _ _ (by omega), hr, Option.bind_some]
  by_cases hf : 0 ≤ fnd p (t, (a, b))
  · rw [decide_eq_true (show fnd p (t, (a, b)) ≥ 0 from hf), cond_true, if_pos hf]
  · rw [decide_eq_false (show ¬ fnd p (t, (a, b)) ≥ 0 from hf), cond_false, if_neg hf]
    by_cases hR : rightB (t, (a, b)) p.length = true
    · rw [hR, Bool.not_true, cond_false, beqI]
      by_cases hl : p.length = 500
      · rw [decide_eq_true (by omega), cond_true, if_neg (fun h => h.2 hl)]
      · rw [decide_eq_false (by omega), cond_false, if_pos (show true = true ∧ p.length ≠ 500 from ⟨rfl, hl⟩)]
        unfold F_spec_l1Copy
        simp only [List.length_nil, List.nil_append]
        rw [if_pos (by omega), Option.bind_some, if_pos (by simp; omega)]
    · rw [Bool.not_eq_true] at hR
      rw [hR, Bool.not_false, cond_true, cond_true, if_neg (fun h => by cases h.1)]
theorem add_eq {k : Nat} (hk : K0 ≤ k) (p : List Nd) (t a b : Int) (hp : p.length ≤ 500) : F_spec_l1Add k p t a b = some (addP p t a b) := by
  unfold F_spec_l1Add F_spec_l1Add_J1 addP norm
  rw [beqI, addJ3_eq hk p _ _ _ hp, addJ3_eq hk p _ _ _ hp]
  by_cases ht : t = 8
  · rw [decide_eq_true ht, cond_true]
    by_cases hab : b < a
    · rw [decide_eq_true (show a > b from hab), cond_true, if_pos ⟨ht, hab⟩, ht]
    · rw [decide_eq_false (show ¬ a > b from hab), cond_false, if_neg (fun h => hab h.2)]
  · rw [decide_eq_false ht, cond_false, cond_false, if_neg (fun h => ht h.1)]
theorem fnd_right {p : List Nd} (hg : AllRight p) {x : Nd} (h : 0 ≤ fnd p x) : rightB x p.length = true := by
  rcases fnd_spec p x with ⟨h1, _⟩ | ⟨j, h1, h2, h3⟩
  · omega
  · exact rightB_mono (hg.at h2) (Nat.le_of_lt (List.getElem?_eq_some_iff.1 h2).1)
theorem padd_eq {k : Nat} (hk : K0 ≤ k) (p : List Nd) (t a b : Int) (hp : Good p) : F_impl_Pool_add_20d6 k t a b p = some ((addP p t a b).2, (addP p t a b).1) := by
  have core : ∀ a b, F_impl_Pool_add_20d6_J1 k t p (a, b) = some ((addX p (t, (a, b))).2, (addX p (t, (a, b))).1) := fun a b => by
    unfold F_impl_Pool_add_20d6_J1 addX
    have hr := nodeOk_eq k (t, (a, b)) p.length (by have := hp.1; omega)
    simp only [] at hr
    simp only [pfind_eq hk p _ _ _ (by have := hp.1; omega), hr, Option.bind_some]
    by_cases hf : 0 ≤ fnd p (t, (a, b))
    · rw [fnd_right hp.2 hf, Bool.not_true, cond_false, decide_eq_true (show fnd p (t, (a, b)) ≥ 0 from hf), cond_true, if_pos hf]
    · rw [if_neg hf]
      by_cases hR : rightB (t, (a, b)) p.length = true
      · rw [hR, Bool.not_true, cond_false, decide_eq_false (show ¬ fnd p (t, (a, b)) ≥ 0 from hf), cond_false]
        by_cases hl : p.length = 500
        · rw [decide_eq_true (by omega), cond_true, if_neg (fun h => h.2 hl)]
        · rw [decide_eq_false (by have := hp.1; omega), cond_false, if_pos (show true = true ∧ p.length ≠ 500 from ⟨rfl, hl⟩), if_pos (by have := hp.1; simp; omega), w64_id (by have := hp.1; simp only [List.length_append, List.length_singleton]; omega) (by have := hp.1; simp only [List.length_append, List.length_singleton]; omega)]
          simp
      · rw [Bool.not_eq_true] at hR
        rw [hR, Bool.not_false, cond_true, if_neg (fun h => by cases h.1)]
  unfold F_impl_Pool_add_20d6 addP norm
  rw [beqI, core, core]
  by_cases ht : t = 8
  · rw [decide_eq_true ht, cond_true]
    by_cases hab : b < a
    · rw [if_pos hab, if_neg (by omega), if_pos ⟨ht, hab⟩, ht]
    · rw [if_neg hab, if_neg (show ¬ (t = 8 ∧ b < a) from fun h => hab h.2)]
      by_cases hba : a < b
      · rw [if_pos hba]
      · rw [if_neg hba, show b = a by omega]
  · rw [decide_eq_false ht, cond_false, if_neg (fun h => ht h.1)]
theorem addX_good {p : List Nd} (hp : Good p) (x : Nd) : Good (addX p x).1 ∧ p.length ≤ (addX p x).1.length ∧ ((addX p x).2 < 0 → addX p x = (p, -1)) ∧ (addX p x).2 < (addX p x).1.length ∧ (∀ (j : Nat) (y : Nd), p[j]? = some y → (addX p x).1[j]? = some y) ∧ (0 ≤ (addX p x).2 → (addX p x).1[(addX p x).2.toNat]? = some x) := by
  unfold addX
  split
  · rename_i h
    refine ⟨hp, Nat.le_refl _, fun hh => by simp only [] at hh; omega, ?_, fun j y h => h, fun _ => ?_⟩
    · rcases fnd_spec p x with ⟨h1, _⟩ | ⟨j, h1, h2, h3⟩
      · omega
      · have := (List.getElem?_eq_some_iff.1 h2).1
        simp only []; omega
    · rcases fnd_spec p x with ⟨h1, _⟩ | ⟨j, h1, h2, h3⟩
      · omega
      · simp only [h1, Int.toNat_natCast]; exact h2
  · split
    · rename_i h1 h2
      have hnm : x ∉ p := by
        rcases fnd_spec p x with ⟨_, h3⟩ | ⟨j, h3, _⟩
        · exact h3
        · exact absurd (by rw [h3]; omega) h1
      refine ⟨⟨by have := hp.1; simp; omega, fun j hj => ?_⟩, by simp, fun hh => by simp only [] at hh; omega, by simp; omega, fun j y h => ?_, fun _ => by simp⟩
      · rcases Nat.lt_or_ge j p.length with hj' | hj'
        · obtain ⟨y, hy, hr, hn⟩ := hp.2 j hj'
          refine ⟨y, by rw [List.getElem?_append_left hj']; exact hy, hr, ?_⟩
          rw [List.take_append_of_le_length (Nat.le_of_lt hj')]; exact hn
        · have hj2 : j = p.length := by simp at hj; omega
          subst hj2
          exact ⟨x, by simp, h2.1, by rw [List.take_left]; exact hnm⟩
      · rw [List.getElem?_append_left (List.getElem?_eq_some_iff.1 h).1]; exact h
    · exact ⟨hp, Nat.le_refl _, fun _ => rfl, by simp only []; omega, fun j y h => h, fun h => by simp only [] at h; omega⟩
theorem addP_good {p : List Nd} (hp : Good p) (t a b : Int) : Good (addP p t a b).1 ∧ p.length ≤ (addP p t a b).1.length ∧ ((addP p t a b).2 < 0 → addP p t a b = (p, -1)) ∧ (addP p t a b).2 < (addP p t a b).1.length := by
  have := addX_good hp (norm t a b)
  exact ⟨this.1, this.2.1, this.2.2.1, this.2.2.2.1⟩
theorem addP_bad {p : List Nd} (hp : Good p) {t a b : Int} (ht : parts t = 2) (h : a < 0 ∨ b < 0) : addP p t a b = (p, -1) := by
  have hr : rightB (norm t a b) p.length = false := by
    rw [← Bool.not_eq_true]
    unfold norm rightB inB
    split
    · rename_i h8
      rw [show parts (8, (b, a)).1 = 2 from rfl]
      simp; omega
    · simp only [ht]; simp; omega
  unfold addP addX
  have hf : ¬ 0 ≤ fnd p (norm t a b) := fun hh => by rw [fnd_right hp.2 hh] at hr; cases hr
  rw [if_neg hf, hr, if_neg (fun h => by cases h.1)]
def wordP (p : List Nd) (id n r : Int) : List Nd × Int :=
  let q := addP p 1 (20 + n) 0
  if q.2 < 0 then (p, -1) else
  let q2 := addP q.1 2 q.2 r
  if q2.2 < 0 then (p, -1) else
  let q3 := addP q2.1 3 q2.2 id
  if q3.2 < 0 then (p, -1) else q3
theorem name_eq {k : Nat} (hk : K0 ≤ k) (p : List Nd) (v : Int) (hp : p.length ≤ 500) : F_spec_l2Name k p v = some (addP p 1 v 0) := by
  unfold F_spec_l2Name; rw [add_eq hk p _ _ _ hp]; rfl
theorem pname_eq {k : Nat} (hk : K0 ≤ k) (p : List Nd) (v : Int) (hp : Good p) : F_impl_Pool_name_3ca5 k v p = some ((addP p 1 v 0).2, (addP p 1 v 0).1) := by
  unfold F_impl_Pool_name_3ca5; rw [padd_eq hk p _ _ _ hp]; rfl
theorem dneg {a : Int} (h : a < 0) : decide (a < 0) = true := decide_eq_true h
theorem dnneg {a : Int} (h : ¬ a < 0) : decide (a < 0) = false := decide_eq_false h
theorem word_eq {k : Nat} (hk : K0 ≤ k) (p : List Nd) (id t n r : Int) (d : Bool) (hp : Good p) (hn : 0 ≤ n ∧ n ≤ 20) : F_spec_l18Word k p id t n d r = some (wordP p id n r) := by
  unfold F_spec_l18Word wordP
  have g1 := addP_good hp 1 (20 + n) 0
  have g2 := addP_good g1.1 2 (addP p 1 (20 + n) 0).2 r
  rw [w64_id (by omega) (by omega), name_eq hk p _ hp.1, Option.bind_some]
  by_cases h1 : (addP p 1 (20 + n) 0).2 < 0
  · simp only [dneg h1, cond_true, if_pos h1]
  simp only [dnneg h1, cond_false, if_neg h1]
  rw [add_eq hk _ _ _ _ g1.1.1, Option.bind_some]
  by_cases h2 : (addP (addP p 1 (20 + n) 0).1 2 (addP p 1 (20 + n) 0).2 r).2 < 0
  · simp only [dneg h2, cond_true, if_pos h2]
  simp only [dnneg h2, cond_false, if_neg h2]
  rw [add_eq hk _ _ _ _ g2.1.1, Option.bind_some]
  by_cases h3 : (addP (addP (addP p 1 (20 + n) 0).1 2 (addP p 1 (20 + n) 0).2 r).1 3 (addP (addP p 1 (20 + n) 0).1 2 (addP p 1 (20 + n) 0).2 r).2 id).2 < 0
  · simp only [dneg h3, cond_true, if_pos h3]
  simp only [dnneg h3, cond_false, if_neg h3]
theorem wordP_good {p : List Nd} (hp : Good p) (id n r : Int) : Good (wordP p id n r).1 ∧ p.length ≤ (wordP p id n r).1.length ∧ ((wordP p id n r).2 < 0 → wordP p id n r = (p, -1)) ∧ (wordP p id n r).2 < (wordP p id n r).1.length := by
  unfold wordP
  have g1 := addP_good hp 1 (20 + n) 0
  have g2 := addP_good g1.1 2 (addP p 1 (20 + n) 0).2 r
  have g3 := addP_good g2.1 3 (addP (addP p 1 (20 + n) 0).1 2 (addP p 1 (20 + n) 0).2 r).2 id
  have f : Good p ∧ p.length ≤ p.length ∧ ((-1 : Int) < 0 → (p, (-1 : Int)) = (p, -1)) ∧ (-1 : Int) < p.length := ⟨hp, Nat.le_refl _, fun _ => rfl, by omega⟩
  simp only []
  split
  · exact f
  split
  · exact f
  split
  · exact f
  · exact ⟨g3.1, by omega, fun h => absurd h (by assumption), g3.2.2.2⟩
theorem seal_eq {k : Nat} (hk : K0 ≤ k) (p : List Nd) (id t n r : Int) (d : Bool) (hp : Good p) (hn : 0 ≤ n ∧ n ≤ 20) :
    ∃ q, F_impl_Link_seal_659e k r id t n d p = some q ∧ Good q.2 ∧ q.1 = (wordP p id n r).2 ∧ (¬ q.1 < 0 → q.2 = (wordP p id n r).1) ∧ (r < 0 → q.1 < 0) := by
  unfold F_impl_Link_seal_659e wordP
  have g1 := addP_good hp 1 (20 + n) 0
  have g2 := addP_good g1.1 2 (addP p 1 (20 + n) 0).2 r
  have g3 := addP_good g2.1 3 (addP (addP p 1 (20 + n) 0).1 2 (addP p 1 (20 + n) 0).2 r).2 id
  rw [w64_id (by omega) (by omega), pname_eq hk p _ hp, Option.bind_some, padd_eq hk _ _ _ _ g1.1, Option.bind_some, padd_eq hk _ _ _ _ g2.1, Option.bind_some]
  refine ⟨_, rfl, g3.1, ?_, ?_, ?_⟩
  · simp only []
    by_cases h1 : (addP p 1 (20 + n) 0).2 < 0
    · rw [if_pos h1]
      have e2 := addP_bad g1.1 (t := 2) (b := r) rfl (.inl h1)
      rw [e2, addP_bad g1.1 (t := 3) rfl (.inl neg1)]
    rw [if_neg h1]
    by_cases h2 : (addP (addP p 1 (20 + n) 0).1 2 (addP p 1 (20 + n) 0).2 r).2 < 0
    · rw [if_pos h2, addP_bad g2.1 (t := 3) rfl (.inl h2)]
    rw [if_neg h2]
    split
    · rename_i h3; rw [g3.2.2.1 h3]
    · rfl
  · simp only []
    intro h3
    by_cases h1 : (addP p 1 (20 + n) 0).2 < 0
    · exfalso; apply h3
      have e2 := addP_bad g1.1 (t := 2) (b := r) rfl (.inl h1)
      rw [e2, addP_bad g1.1 (t := 3) rfl (.inl neg1)]; exact neg1
    rw [if_neg h1]
    by_cases h2 : (addP (addP p 1 (20 + n) 0).1 2 (addP p 1 (20 + n) 0).2 r).2 < 0
    · exfalso; apply h3
      rw [addP_bad g2.1 (t := 3) rfl (.inl h2)]; exact neg1
    rw [if_neg h2, if_neg h3]
  · simp only []
    intro hr
    have e2 := addP_bad g1.1 (t := 2) (a := (addP p 1 (20 + n) 0).2) rfl (.inr hr)
    rw [e2, addP_bad g1.1 (t := 3) rfl (.inl neg1)]; exact neg1
theorem copy_eq (k : Nat) (p : List Nd) (hp : p.length ≤ 3000000) : F_spec_l1Copy k p = some () := by
  unfold F_spec_l1Copy; rw [if_pos (by simp; omega)]
theorem copyPool_eq (k : Nat) (p : List Nd) (hp : p.length ≤ 3000000) : F_impl_copyPool k p = some p := by
  unfold F_impl_copyPool F_slices_Clone_impl_Node_impl_Node; rw [if_pos (by omega)]; rfl
theorem cloneI_eq (k : Nat) (p : List Int) (hp : p.length ≤ 3000000) : F_slices_Clone_int_int k p = some p := by
  unfold F_slices_Clone_int_int; rw [if_pos (by omega)]
theorem orEmpty_eq {k : Nat} (hk : K0 ≤ k) (p : List Nd) : F_impl_orEmpty k p = some (if poolOk p = true then p else []) := by
  unfold F_impl_orEmpty
  rw [iPoolOk_eq hk, Option.bind_some]
  cases h : poolOk p
  · rfl
  · rw [Bool.not_true, cond_false, copyPool_eq _ _ (by have := poolOk_len h; omega)]; rfl
def nameAt (p : List Nd) (r v : Int) : Bool := match at? p r with | some x => decide (x = (1, (v, 0))) | none => false
theorem isName_eq (k : Nat) (p : List Nd) (r v : Int) (h : hasB p r = true) : F_impl_Pool_isName k r v p = some (nameAt p r v) := by
  unfold F_impl_Pool_isName nameAt
  obtain ⟨h1, h2⟩ := hasB_iff.1 h
  obtain ⟨i, rfl⟩ := Int.eq_ofNat_of_zero_le h1
  rw [at?_lt p i (by omega)]
  simp only [Option.bind_some, beqI]
  congr 1
  rw [Bool.eq_iff_iff]
  simp [Prod.ext_iff]
theorem end_eq (k : Nat) (p : List Nd) (r : Int) (h : hasB p r = true) : F_spec_l18End k p r = some (nameAt p r 8) := isName_eq k p r 8 h
def sendP (p : List Nd) (id n : Int) (d : Bool) (r : Int) : List Nd × Int × Int :=
  if hasB p r = true ∧ nameAt p r 8 = false ∧ d = false ∧ n ≠ 20 ∧ ¬ (wordP p id n r).2 < 0 then ((wordP p id n r).1, n + 1, (wordP p id n r).2) else (p, n, -1)
theorem send_eq {k : Nat} (hk : K0 ≤ k) (p : List Nd) (id t n r : Int) (d : Bool) (hp : Good p) (hn : 0 ≤ n ∧ n ≤ 20) : F_spec_l18Send k p id t n d r = some (sendP p id n d r) := by
  unfold F_spec_l18Send F_spec_l18Send_J1 sendP
  rw [has_eq _ _ _ (by have := hp.1; omega), Option.bind_some]
  cases hh : hasB p r
  · simp
  rw [end_eq _ _ _ hh, Option.bind_some, word_eq hk p _ _ _ _ _ hp hn, beqI]
  cases nameAt p r 8
  · cases d
    · by_cases h20 : n = 20
      · simp [h20]
      · by_cases hw : (wordP p id n r).2 < 0
        · simp [h20, hw]
        · simp [h20, hw]; exact w64_id (by omega) (by omega)
    · simp
  · simp
theorem isend_eq {k : Nat} (hk : K0 ≤ k) (p : List Nd) (id t n r : Int) (d : Bool) (hp : poolOk p = true) (hl : linkB p id t n = true) (hn : 0 ≤ n ∧ n ≤ 20) :
    F_impl_LinkSend k p id t n d r = some ((sendP p id n d r).2.1, (sendP p id n d r).2.2, (sendP p id n d r).1) := by
  have hg : Good p := ⟨poolOk_len hp, poolOk_right hp⟩
  unfold F_impl_LinkSend F_impl_LinkSend_J1 sendP
  rw [isTerm_eq _ _ _ (by have := hg.1; omega), Option.bind_some, iLinkOk_eq hk _ _ _ _ _ (by have := hg.1; omega), hp, hl, orEmpty_eq hk, if_pos hp, copyPool_eq _ _ (by have := hg.1; omega)]
  cases hh : hasB p r
  · simp
  rw [isName_eq _ _ _ _ hh, beqI]
  obtain ⟨q, e1, e2, e3, e4, e5⟩ := seal_eq hk p id t n r d hg hn
  cases d
  · by_cases h20 : n = 20
    · simp [h20]
    · cases nameAt p r 8
      · by_cases hw : (wordP p id n r).2 < 0
        · simp [h20, hw, e1, e3]
        · simp [h20, hw, e1, e3, e4 (by rw [e3]; exact hw)]; exact w64_id (by omega) (by omega)
      · simp [h20]
  · simp
def closeP (p : List Nd) (id n : Int) (d : Bool) : List Nd × Bool × Int :=
  if d = false ∧ n ≠ 20 ∧ ¬ (addP p 1 8 0).2 < 0 ∧ ¬ (wordP (addP p 1 8 0).1 id n (addP p 1 8 0).2).2 < 0 then ((wordP (addP p 1 8 0).1 id n (addP p 1 8 0).2).1, true, (wordP (addP p 1 8 0).1 id n (addP p 1 8 0).2).2) else (p, d, -1)
theorem close_eq {k : Nat} (hk : K0 ≤ k) (p : List Nd) (id t n : Int) (d : Bool) (hp : Good p) (hn : 0 ≤ n ∧ n ≤ 20) : F_spec_l18Close k p id t n d = some (closeP p id n d) := by
  unfold F_spec_l18Close F_spec_l18Close_J1 closeP
  rw [name_eq hk p _ hp.1, Option.bind_some, word_eq hk _ _ _ _ _ _ (addP_good hp 1 8 0).1 hn, Option.bind_some, beqI]
  cases d
  · by_cases h20 : n = 20
    · simp [h20]
    · by_cases h8 : (addP p 1 8 0).2 < 0
      · simp [h20, h8]
      · by_cases hw : (wordP (addP p 1 8 0).1 id n (addP p 1 8 0).2).2 < 0
        · simp [h20, hw, h8]
        · simp [h20, hw, h8]
  · simp
theorem iclose_eq {k : Nat} (hk : K0 ≤ k) (p : List Nd) (id t n : Int) (d : Bool) (hp : poolOk p = true) (hl : linkB p id t n = true) (hn : 0 ≤ n ∧ n ≤ 20) :
    F_impl_LinkEnd k p id t n d = some ((closeP p id n d).2.1, (closeP p id n d).2.2, (closeP p id n d).1) := by
  have hg : Good p := ⟨poolOk_len hp, poolOk_right hp⟩
  unfold F_impl_LinkEnd F_impl_LinkEnd_J1 F_impl_Link_end_4187 closeP
  rw [iLinkOk_eq hk _ _ _ _ _ (by have := hg.1; omega), hp, hl, orEmpty_eq hk, if_pos hp, copyPool_eq _ _ (by have := hg.1; omega), beqI]
  simp only [Option.bind_some]
  rw [pname_eq hk _ _ hg]
  simp only [Option.bind_some]
  obtain ⟨q, e1, e2, e3, e4, e5⟩ := seal_eq hk (addP p 1 8 0).1 id t n (addP p 1 8 0).2 d (addP_good hg 1 8 0).1 hn
  rw [e1]
  cases d
  · by_cases h20 : n = 20
    · simp [h20]
    · by_cases h8 : (addP p 1 8 0).2 < 0
      · simp [h20, h8, e5 h8]
      · by_cases hw : (wordP (addP p 1 8 0).1 id n (addP p 1 8 0).2).2 < 0
        · simp [h20, hw, h8, e3]
        · simp [h20, hw, h8, e3, e4 (by rw [e3]; exact hw)]
  · simp
def turnP (p : List Nd) (id t n : Int) (d : Bool) : List Nd × Int × Int × Int × Bool × Bool :=
  if d = false ∧ t ≠ 20 ∧ ¬ (addP p 1 7 0).2 < 0 ∧ ¬ (addP (addP p 1 7 0).1 6 id (addP p 1 7 0).2).2 < 0 then ((addP (addP p 1 7 0).1 6 id (addP p 1 7 0).2).1, (addP (addP p 1 7 0).1 6 id (addP p 1 7 0).2).2, t + 1, 0, false, true) else (p, id, t, n, d, false)
theorem turn_eq {k : Nat} (hk : K0 ≤ k) (p : List Nd) (id t n : Int) (d : Bool) (hp : Good p) (ht : 0 ≤ t ∧ t ≤ 20) : F_spec_l18Turn k p id t n d = some (turnP p id t n d) := by
  unfold F_spec_l18Turn F_spec_l18Turn_J1 turnP
  rw [name_eq hk p _ hp.1, Option.bind_some, add_eq hk _ _ _ _ (addP_good hp 1 7 0).1.1, Option.bind_some, beqI]
  cases d
  · by_cases h20 : t = 20
    · simp [h20]
    · by_cases h8 : (addP p 1 7 0).2 < 0
      · simp [h20, h8]
      · by_cases hw : (addP (addP p 1 7 0).1 6 id (addP p 1 7 0).2).2 < 0
        · simp [h20, hw, h8]
        · simp [h20, hw, h8]; exact w64_id (by omega) (by omega)
  · simp
theorem iturn_eq {k : Nat} (hk : K0 ≤ k) (p : List Nd) (id t n : Int) (d : Bool) (hp : poolOk p = true) (hl : linkB p id t n = true) (ht : 0 ≤ t ∧ t ≤ 20) :
    F_impl_LinkTurn k p id t n d = some ((turnP p id t n d).2.1, (turnP p id t n d).2.2.1, (turnP p id t n d).2.2.2.1, (turnP p id t n d).2.2.2.2.1, (turnP p id t n d).2.2.2.2.2, (turnP p id t n d).1) := by
  have hg : Good p := ⟨poolOk_len hp, poolOk_right hp⟩
  have g1 := addP_good hg 1 7 0
  unfold F_impl_LinkTurn F_impl_LinkTurn_J1 turnP
  rw [iLinkOk_eq hk _ _ _ _ _ (by have := hg.1; omega), hp, hl, orEmpty_eq hk, if_pos hp, copyPool_eq _ _ (by have := hg.1; omega), beqI]
  simp only [Option.bind_some]
  rw [pname_eq hk _ _ hg]
  simp only [Option.bind_some]
  rw [padd_eq hk _ _ _ _ g1.1]
  simp only [Option.bind_some]
  cases d
  · by_cases h20 : t = 20
    · simp [h20]
    · by_cases h8 : (addP p 1 7 0).2 < 0
      · have := addP_bad g1.1 (t := 6) (a := id) rfl (.inr h8)
        simp [h20, h8, this]
      · by_cases hw : (addP (addP p 1 7 0).1 6 id (addP p 1 7 0).2).2 < 0
        · simp [h20, hw, h8]
        · simp [h20, hw, h8]; exact w64_id (by omega) (by omega)
  · simp
end Go.Proofs.YtmbbapeiikifgaaGreatDoor
