/- Plain laws, sixth part: the reader, whole. -/
import Derived.Test.YtmbbapeiikifgaaGreatDoorPe
set_option linter.all false
namespace Go.Proofs.YtmbbapeiikifgaaGreatDoor
open Go
theorem oneT {k : Nat} (hk : K0 ≤ k) {c : Int} {s : ByteArray} (hs : s.size ≤ 3000000) (h : s.data.toList.any (fun b => decide ((b.toNat : Int) = c)) = true) : F_impl_isOneOf k c s = some true := by rw [one_eq hk c s hs, h]
theorem oneF {k : Nat} (hk : K0 ≤ k) {c : Int} {s : ByteArray} (hs : s.size ≤ 3000000) (h : s.data.toList.any (fun b => decide ((b.toNat : Int) = c)) = false) : F_impl_isOneOf k c s = some false := by rw [one_eq hk c s hs, h]
section
variable {k : Nat} (hk : K0 ≤ k) {q : QS} {q' : QI} {s : ByteArray} (hs : s.size ≤ 3000000) {ks : List Int} {p : List Nd} {pos : Nat} (h : QQ q q' s ks p (pos + 1)) (hp : pos < s.size) (hg : Good p) (hks : ∀ x ∈ ks, hasB p x = true) (hkl : ks.length ≤ 3000000)
include hk hs h hp hg hks hkl
theorem implB {c : Int} (hc : bt s (pos : Int) = c) : F_impl_reader_read_0f1e_B k q' s (pos : Int) 0 optsR ks p = bif c == 110 then F_impl_reader_read_0f1e_J7 k s q' (pos : Int) c 0 optsR ks p true else
    (F_impl_isOneOf k c (⟨#[64, 36, 63]⟩ : ByteArray)).bind fun r8 => bif r8 then (F_impl_isOneOf k c optsR).bind fun r9 => F_impl_reader_read_0f1e_J7 k s q' (pos : Int) c 0 optsR ks p r9 else F_impl_reader_read_0f1e_J7 k s q' (pos : Int) c 0 optsR ks p false := by
  unfold F_impl_reader_read_0f1e_B
  simp only [bne_self_eq_false, cond_false, peek_eq, Option.bind_some, dge0 (Nat.not_le.2 hp), if_pos hp, hc]
theorem specB {c : Int} (hc : bt s (pos : Int) = c) : F_spec_l10Run_B k q p ks s (pos : Int) =
    bif c == 64 then (F_spec_l10Num k s ((pos + 1 : Nat) : Int)).bind fun r4 => bif !r4.2.2 then F_spec_l10Run_J5 k p ks (pos : Int) r4 true else F_spec_l10Run_J5 k p ks (pos : Int) r4 (decide (r4.1 ≥ (ks.length : Int)))
    else bif c == 110 then (F_spec_l4Name k s ((pos + 1 : Nat) : Int)).bind fun r12 => bif !r12.2.2 then F_spec_l10Run_J13 k p (pos : Int) r12 true else (F_spec_IsPublic k r12.1).bind fun r14 => F_spec_l10Run_J13 k p (pos : Int) r12 (!r14)
    else bif c == 60 then F_spec_l10Run_J19 k p ks s (pos : Int) q true else bif c == 62 then F_spec_l10Run_J19 k p ks s (pos : Int) q true else F_spec_l10Run_J19 k p ks s (pos : Int) q (c == 33) := by
  unfold F_spec_l10Run_B
  rw [dge0 (Nat.not_le.2 hp), cond_false, if_pos (by omega), hc, w64_succ (by omega)]
theorem c64 (hc : bt s (pos : Int) = 64) : ∃ R R', F_spec_l10Run_B k q p ks s (pos : Int) = some R ∧ F_impl_reader_read_0f1e_B k q' s (pos : Int) 0 optsR ks p = some R' ∧ SameR s p pos R R' := by
  rw [implB hk hs h hp hg hks hkl hc, specB hk hs h hp hg hks hkl hc, oneT hk (by decide) (by decide), oneT hk (by decide) (by decide)]
  have hp1 : pos + 1 ≤ s.size := hp
  rw [show ((64 : Int) == 64) = true from rfl, show ((64 : Int) == 110) = false from rfl]
  simp only [cond_true, cond_false, Option.bind_some]
  unfold F_impl_reader_read_0f1e_J7 F_impl_RecipeRun_1_c681 F_impl_reader_place_ba6e F_spec_l10Run_J5
  rw [show ((64 : Int) == 64) = true from rfl, w64_succ (by omega)]
  have hf := figures_eq hk 4 (by decide) s hs (pos + 1) hp1 0 optsR ks p
  rw [show ((4 : Nat) : Int) = 4 from rfl] at hf
  rw [hf, l10Num_eq hk s hs (pos + 1) hp1]
  have hle := digs_le s (pos + 1) hp1
  simp only [cond_true, Option.bind_some, inRange_eq, fail0]
  rw [w64_id (by omega) (by omega)]
  have bad : ∀ A B : List Nd, ∀ a b : Int, SameR s p pos (A, -1, a, 4) (-1, b, 4, B) := fun _ _ _ _ => .inr ⟨show (4 : Int) ≠ 0 by decide, show (4 : Int) ≠ 0 by decide⟩
  by_cases hok : okD 4 (digs s (pos + 1))
  · simp only [if_pos hok, Bool.not_true, cond_false]
    by_cases hv : valD (digs s (pos + 1)) < ks.length
    · rw [decide_eq_false (by omega), cond_false, at?_lt _ _ hv, show inB (valD (digs s (pos + 1)) : Int) 0 ((ks.length : Int) - 1) = true by unfold inB; exact decide_eq_true (by omega), Bool.not_true, cond_false]
      simp only [Option.bind_some]
      exact ⟨_, _, rfl, rfl, .inl ⟨p, ks[valD (digs s (pos + 1))], pos + 1 + (digs s (pos + 1)).length, rfl, rfl, hg, Nat.le_refl _, hks _ (List.getElem_mem hv), by omega, hle⟩⟩
    · rw [decide_eq_true (by omega), cond_true, show inB (valD (digs s (pos + 1)) : Int) 0 ((ks.length : Int) - 1) = false by unfold inB; exact decide_eq_false (by omega), Bool.not_false, cond_true]
      exact ⟨_, _, rfl, rfl, bad _ _ _ _⟩
  · simp only [if_neg hok, Bool.not_false, cond_true]
    rw [show inB (-1) 0 ((ks.length : Int) - 1) = false by unfold inB; exact decide_eq_false (by omega), Bool.not_false, cond_true]
    exact ⟨_, _, rfl, rfl, bad _ _ _ _⟩
open Classical in
theorem c110 (hc : bt s (pos : Int) = 110) : ∃ R R', F_spec_l10Run_B k q p ks s (pos : Int) = some R ∧ F_impl_reader_read_0f1e_B k q' s (pos : Int) 0 optsR ks p = some R' ∧ SameR s p pos R R' := by
  rw [implB hk hs h hp hg hks hkl hc, specB hk hs h hp hg hks hkl hc]
  have hp1 : pos + 1 ≤ s.size := hp
  rw [show ((110 : Int) == 64) = false from rfl, show ((110 : Int) == 110) = true from rfl]
  simp only [cond_true, cond_false]
  unfold F_impl_reader_read_0f1e_J7 F_impl_RecipeRun_1_c681 F_impl_reader_public_20dc F_impl_reader_number_51fc F_spec_l10Run_J13 F_spec_IsPublic F_impl_IsPublic
  rw [show ((110 : Int) == 64) = false from rfl, w64_succ (by omega)]
  have hf := figures_eq hk 9 (by decide) s hs (pos + 1) hp1 0 optsR ks p
  rw [show ((9 : Nat) : Int) = 9 from rfl] at hf
  rw [hf, l4Name_eq hk s hs (pos + 1) hp1]
  have hle := digs_le s (pos + 1) hp1
  simp only [cond_true, cond_false, Option.bind_some, inRange_eq, in_eq, fail0]
  have bad : ∀ A B : List Nd, ∀ a b : Int, SameR s p pos (A, -1, a, 4) (-1, b, 4, B) := fun _ _ _ _ => .inr ⟨show (4 : Int) ≠ 0 by decide, show (4 : Int) ≠ 0 by decide⟩
  have hiff := okD_nine (digs_all s (pos + 1))
  by_cases hok : okD 3 (digs s (pos + 1)) ∧ valD (digs s (pos + 1)) < 200
  · have hok9 := hiff.2 hok
    simp only [if_pos hok, if_pos hok9.1, Bool.not_true, cond_false]
    rw [show inB (valD (digs s (pos + 1)) : Int) 0 199 = true by unfold inB; exact decide_eq_true (by omega), Bool.not_true, cond_false]
    simp only [Option.bind_some, bne_self_eq_false, cond_false]
    cases hpub : inB (valD (digs s (pos + 1)) : Int) 0 49
    · simp only [Bool.not_false, cond_true, Option.bind_some]
      exact ⟨_, _, rfl, rfl, bad _ _ _ _⟩
    · simp only [Bool.not_true, cond_false, Option.bind_some]
      have ga := addP_good hg 1 (valD (digs s (pos + 1)) : Int) 0
      rw [name_eq hk _ _ hg.1, pname_eq hk _ _ hg]
      simp only [Option.bind_some, orFull_eq]
      by_cases h' : (addP p 1 (valD (digs s (pos + 1)) : Int) 0).2 < 0
      · simp only [dneg h', cond_true, if_pos h']
        exact ⟨_, _, rfl, rfl, .inr ⟨show (5 : Int) ≠ 0 by decide, show (5 : Int) ≠ 0 by decide⟩⟩
      · simp only [dnneg h', cond_false, if_neg h']
        exact ⟨_, _, rfl, rfl, .inl ⟨(addP p 1 (valD (digs s (pos + 1)) : Int) 0).1, (addP p 1 (valD (digs s (pos + 1)) : Int) 0).2, pos + 1 + (digs s (pos + 1)).length, rfl, rfl, ga.1, ga.2.1, hasB_iff.2 ⟨by omega, ga.2.2.2⟩, by omega, hle⟩⟩
  · simp only [if_neg hok, Bool.not_false, cond_true]
    have : inB (if okD 9 (digs s (pos + 1)) then (valD (digs s (pos + 1)) : Int) else -1) 0 199 = false := by
      unfold inB
      by_cases h9 : okD 9 (digs s (pos + 1))
      · rw [if_pos h9]; exact decide_eq_false (fun hh => hok (hiff.1 ⟨h9, by omega⟩))
      · rw [if_neg h9]; rfl
    rw [this, Bool.not_false, cond_true]
    simp only [Option.bind_some]
    rw [show ((4 : Int) != 0) = true from rfl, cond_true]
    exact ⟨_, _, rfl, rfl, bad _ _ _ _⟩
theorem cApply {c : Int} (hcc : c = 60 ∨ c = 62 ∨ c = 33) (hc : bt s (pos : Int) = c) : ∃ R R', F_spec_l10Run_B k q p ks s (pos : Int) = some R ∧ F_impl_reader_read_0f1e_B k q' s (pos : Int) 0 optsR ks p = some R' ∧ SameR s p pos R R' := by
  have e1 : F_spec_l10Run_B k q p ks s (pos : Int) = F_spec_l10Run_J19 k p ks s (pos : Int) q true := by
    rw [specB hk hs h hp hg hks hkl hc]; rcases hcc with rfl | rfl | rfl <;> rfl
  have e2 : F_impl_reader_read_0f1e_B k q' s (pos : Int) 0 optsR ks p = F_impl_reader_read_0f1e_J17 k s q' (pos : Int) c 0 optsR ks p true := by
    rw [implB hk hs h hp hg hks hkl hc]
    rcases hcc with rfl | rfl | rfl
    all_goals
      rw [oneF hk (by decide) (by decide)]
      unfold F_impl_reader_read_0f1e_J7
      rw [oneF hk (s := ⟨#[40, 123, 91]⟩) (by decide) (by decide), oneF hk (s := ⟨#[35, 94]⟩) (by decide) (by decide), oneT hk (s := ⟨#[60, 62, 33]⟩) (by decide) (by decide), oneT hk (s := optsR) (by decide) (by decide)]
      rfl
  rw [e1, e2]
  unfold F_spec_l10Run_J19 F_impl_reader_read_0f1e_J17
  rw [cond_true, cond_true, w64_succ (by omega), hc]
  refine one_below hk h hp hg c _ _ (fun P v e g l b h1 h2 => ?_) (fun R R' hE hE' => ?_)
  · exact fin_apply hk s ks p P pos e c v hcc g l b h1 h2
  · exact ⟨(R.1, -1, R.2.2.1, R.2.2.2), (-1, R'.2.1, R'.2.2.1, R'.2.2.2), by simp only [dne0 hE, cond_true], J6_bad (k := k) s c ks _ hE', hE, hE'⟩
theorem cOne {c t : Int} (hcc : c = 35 ∧ t = 5 ∨ c = 94 ∧ t = 7) (hc : bt s (pos : Int) = c) : ∃ R R', F_spec_l10Run_B k q p ks s (pos : Int) = some R ∧ F_impl_reader_read_0f1e_B k q' s (pos : Int) 0 optsR ks p = some R' ∧ SameR s p pos R R' := by
  have ek : F_spec_l4Kind k s (pos : Int) = some (t, 1, 0) := by
    unfold F_spec_l4Kind
    rw [if_pos (by omega), hc]; rcases hcc with ⟨rfl, rfl⟩ | ⟨rfl, rfl⟩ <;> rfl
  have e1 : F_spec_l10Run_B k q p ks s (pos : Int) = F_spec_l10Run_J35 k p ks s (pos : Int) q (t, 1, 0) false := by
    rw [specB hk hs h hp hg hks hkl hc]
    unfold F_spec_l10Run_J19 F_spec_l10Run_J27
    rw [hc, ek]; rcases hcc with ⟨rfl, rfl⟩ | ⟨rfl, rfl⟩ <;> rfl
  have e2 : F_impl_reader_read_0f1e_B k q' s (pos : Int) 0 optsR ks p = F_impl_reader_read_0f1e_J17 k s q' (pos : Int) c 0 optsR ks p true := by
    rw [implB hk hs h hp hg hks hkl hc]
    rcases hcc with ⟨rfl, rfl⟩ | ⟨rfl, rfl⟩
    all_goals
      rw [oneF hk (by decide) (by decide)]
      unfold F_impl_reader_read_0f1e_J7
      rw [oneF hk (s := ⟨#[40, 123, 91]⟩) (by decide) (by decide), oneT hk (s := ⟨#[35, 94]⟩) (by decide) (by decide)]
      rfl
  rw [e1, e2]
  unfold F_spec_l10Run_J35 F_impl_reader_read_0f1e_J17
  rw [cond_true, cond_false, w64_succ (by omega), show decide (t > 0) = true by rcases hcc with ⟨_, rfl⟩ | ⟨_, rfl⟩ <;> rfl, cond_true]
  refine one_below hk h hp hg c _ _ (fun P v e g l b h1 h2 => ?_) (fun R R' hE hE' => ?_)
  · exact fin_add hk s ks p P pos e c t [v] v 0 1 0 (by rcases hcc with ⟨rfl, rfl⟩ | ⟨rfl, rfl⟩ <;> decide) (by rcases hcc with ⟨rfl, rfl⟩ | ⟨rfl, rfl⟩ <;> rfl) (.inr ⟨rfl, rfl⟩) g l h1 h2
  · exact ⟨(R.1, -1, R.2.2.1, R.2.2.2), (-1, R'.2.1, R'.2.2.1, R'.2.2.2), by unfold F_spec_l10Run_J34; simp only [dne0 hE, cond_true], J6_bad (k := k) s c ks _ hE', hE, hE'⟩
theorem cTwo {c t d : Int} (hcc : c = 40 ∧ t = 2 ∧ d = 41 ∨ c = 123 ∧ t = 3 ∧ d = 125 ∨ c = 91 ∧ t = 4 ∧ d = 93) (hc : bt s (pos : Int) = c) : ∃ R R', F_spec_l10Run_B k q p ks s (pos : Int) = some R ∧ F_impl_reader_read_0f1e_B k q' s (pos : Int) 0 optsR ks p = some R' ∧ SameR s p pos R R' := by
  have ek : F_spec_l4Kind k s (pos : Int) = some (t, 1, d) := by
    unfold F_spec_l4Kind
    rw [if_pos (by omega), hc]; rcases hcc with ⟨rfl, rfl, rfl⟩ | ⟨rfl, rfl, rfl⟩ | ⟨rfl, rfl, rfl⟩ <;> rfl
  have e1 : F_spec_l10Run_B k q p ks s (pos : Int) = F_spec_l10Run_J35 k p ks s (pos : Int) q (t, 1, d) true := by
    rw [specB hk hs h hp hg hks hkl hc]
    unfold F_spec_l10Run_J19 F_spec_l10Run_J27
    rw [hc, ek]; rcases hcc with ⟨rfl, rfl, rfl⟩ | ⟨rfl, rfl, rfl⟩ | ⟨rfl, rfl, rfl⟩ <;> rfl
  have e2 : F_impl_reader_read_0f1e_B k q' s (pos : Int) 0 optsR ks p = (F_impl_reader_two_32e8 k q' d s ((pos + 1 : Nat) : Int) 0 optsR ks p).bind fun r16 => F_impl_reader_read_0f1e_J6 k s c optsR ks (r16.1, r16.2.1, r16.2.2.1, r16.2.2.2) := by
    rw [implB hk hs h hp hg hks hkl hc]
    rcases hcc with ⟨rfl, rfl, rfl⟩ | ⟨rfl, rfl, rfl⟩ | ⟨rfl, rfl, rfl⟩
    all_goals
      rw [oneF hk (by decide) (by decide)]
      unfold F_impl_reader_read_0f1e_J7
      rw [oneT hk (s := ⟨#[40, 123, 91]⟩) (by decide) (by decide), w64_succ (by omega)]
      rfl
  rw [e1, e2]
  unfold F_spec_l10Run_J35
  rw [cond_true, w64_succ (by omega), show ((1 : Int) == 2) = false from rfl]
  refine two_below hk hs h hg d (pos + 1) (by omega) hp _ _ (fun P v w e g l b b2 h1 h2 => ?_) (fun T T' hE hE' => ?_)
  · exact fin_add hk s ks p P pos e c t [v, w] v w 1 d (by rcases hcc with ⟨rfl, rfl, rfl⟩ | ⟨rfl, rfl, rfl⟩ | ⟨rfl, rfl, rfl⟩ <;> decide) (by rcases hcc with ⟨rfl, rfl, rfl⟩ | ⟨rfl, rfl, rfl⟩ | ⟨rfl, rfl, rfl⟩ <;> rfl) (.inl rfl) g l h1 h2
  · exact ⟨(T.1, -1, T.2.2.2.1, T.2.2.2.2), (-1, T'.1, T'.2.1, T'.2.2.2), by unfold F_spec_l10Run_J34; simp only [dne0 hE, cond_true], J6_bad (k := k) s c ks _ hE', hE, hE'⟩
theorem cOpen {c t : Int} (hcc : c = 107 ∧ t = 6 ∨ c = 42 ∧ t = 8) (hc : bt s (pos : Int) = c) : ∃ R R', F_spec_l10Run_B k q p ks s (pos : Int) = some R ∧ F_impl_reader_read_0f1e_B k q' s (pos : Int) 0 optsR ks p = some R' ∧ SameR s p pos R R' := by
  have ek : F_spec_l4Kind k s (pos : Int) = some (t, 2, 41) := by
    unfold F_spec_l4Kind
    rw [if_pos (by omega), hc]; rcases hcc with ⟨rfl, rfl⟩ | ⟨rfl, rfl⟩ <;> rfl
  have e1 : F_spec_l10Run_B k q p ks s (pos : Int) = F_spec_l10Run_J35 k p ks s (pos : Int) q (t, 2, 41) true := by
    rw [specB hk hs h hp hg hks hkl hc]
    unfold F_spec_l10Run_J19 F_spec_l10Run_J27
    rw [hc, ek]; rcases hcc with ⟨rfl, rfl⟩ | ⟨rfl, rfl⟩ <;> rfl
  have e2 : F_impl_reader_read_0f1e_B k q' s (pos : Int) 0 optsR ks p = F_impl_reader_read_0f1e_J24 k s q' (pos : Int) c 0 optsR ks p true := by
    rw [implB hk hs h hp hg hks hkl hc]
    rcases hcc with ⟨rfl, rfl⟩ | ⟨rfl, rfl⟩
    all_goals
      rw [oneF hk (by decide) (by decide)]
      unfold F_impl_reader_read_0f1e_J7 F_impl_reader_read_0f1e_J17
      rw [oneF hk (s := ⟨#[40, 123, 91]⟩) (by decide) (by decide), oneF hk (s := ⟨#[35, 94]⟩) (by decide) (by decide), oneF hk (s := ⟨#[60, 62, 33]⟩) (by decide) (by decide), oneT hk (s := ⟨#[107, 42]⟩) (by decide) (by decide)]
      rfl
  rw [e1, e2]
  unfold F_spec_l10Run_J35 F_impl_reader_read_0f1e_J24
  rw [cond_true, cond_true, w64_succ (by omega), show ((2 : Int) == 2) = true from rfl]
  refine two_open hk hs h hp hg 41 _ _ (fun P v w e g l b b2 h1 h2 => ?_) (fun T T' hE hE' => ?_)
  · exact fin_add hk s ks p P pos e c t [v, w] v w 2 41 (by rcases hcc with ⟨rfl, rfl⟩ | ⟨rfl, rfl⟩ <;> decide) (by rcases hcc with ⟨rfl, rfl⟩ | ⟨rfl, rfl⟩ <;> rfl) (.inl rfl) g l h1 h2
  · exact ⟨(T.1, -1, T.2.2.2.1, T.2.2.2.2), (-1, T'.1, T'.2.1, T'.2.2.2), by unfold F_spec_l10Run_J34; simp only [dne0 hE, cond_true], J6_bad (k := k) s c ks _ hE', hE, hE'⟩
theorem cBoth {c : Int} (hcc : c = 111 ∨ c = 120) (hc : bt s (pos : Int) = c) : ∃ R R', F_spec_l10Run_B k q p ks s (pos : Int) = some R ∧ F_impl_reader_read_0f1e_B k q' s (pos : Int) 0 optsR ks p = some R' ∧ SameR s p pos R R' := by
  have e1 : F_spec_l10Run_B k q p ks s (pos : Int) = F_spec_l10Run_J27 k p ks s (pos : Int) q true := by
    rw [specB hk hs h hp hg hks hkl hc]
    unfold F_spec_l10Run_J19
    rw [hc]; rcases hcc with rfl | rfl <;> rfl
  have e2 : F_impl_reader_read_0f1e_B k q' s (pos : Int) 0 optsR ks p = F_impl_reader_read_0f1e_J24 k s q' (pos : Int) c 0 optsR ks p true := by
    rw [implB hk hs h hp hg hks hkl hc]
    rcases hcc with rfl | rfl
    all_goals
      rw [oneF hk (by decide) (by decide)]
      unfold F_impl_reader_read_0f1e_J7 F_impl_reader_read_0f1e_J17
      rw [oneF hk (s := ⟨#[40, 123, 91]⟩) (by decide) (by decide), oneF hk (s := ⟨#[35, 94]⟩) (by decide) (by decide), oneF hk (s := ⟨#[60, 62, 33]⟩) (by decide) (by decide), oneF hk (s := ⟨#[107, 42]⟩) (by decide) (by decide), oneT hk (s := ⟨#[111, 120]⟩) (by decide) (by decide), oneT hk (s := optsR) (by decide) (by decide)]
      rfl
  rw [e1, e2]
  unfold F_spec_l10Run_J27 F_impl_reader_read_0f1e_J24
  rw [cond_true, cond_true, w64_succ (by omega), hc]
  refine two_open hk hs h hp hg 41 _ _ (fun P v w e g l b b2 h1 h2 => ?_) (fun T T' hE hE' => ?_)
  · exact both_eq hk s ks p P pos e c v w hcc g l b b2 h1 h2
  · exact ⟨(T.1, -1, T.2.2.2.1, T.2.2.2.2), (-1, T'.1, T'.2.1, T'.2.2.2), by simp only [dne0 hE, cond_true], J6_bad (k := k) s c ks _ hE', hE, hE'⟩
theorem cElse {c : Int} (hcc : c ≠ 64 ∧ c ≠ 110 ∧ c ≠ 60 ∧ c ≠ 62 ∧ c ≠ 33 ∧ c ≠ 35 ∧ c ≠ 94 ∧ c ≠ 40 ∧ c ≠ 123 ∧ c ≠ 91 ∧ c ≠ 107 ∧ c ≠ 42 ∧ c ≠ 111 ∧ c ≠ 120) (hc : bt s (pos : Int) = c) :
    ∃ R R', F_spec_l10Run_B k q p ks s (pos : Int) = some R ∧ F_impl_reader_read_0f1e_B k q' s (pos : Int) 0 optsR ks p = some R' ∧ SameR s p pos R R' := by
  obtain ⟨h1, h2, h3, h4, h5, h6, h7, h8, h9, h10, h11, h12, h13, h14⟩ := hcc
  have ek : F_spec_l4Kind k s (pos : Int) = some (0, 0, 0) := by
    unfold F_spec_l4Kind
    rw [if_pos (by omega), hc]
    simp only [beqI, decide_eq_false h8, decide_eq_false h9, decide_eq_false h10, decide_eq_false h6, decide_eq_false h7, decide_eq_false h11, decide_eq_false h12, cond_false]
  have e1 : F_spec_l10Run_B k q p ks s (pos : Int) = some (p, -1, (pos : Int), 3) := by
    rw [specB hk hs h hp hg hks hkl hc]
    unfold F_spec_l10Run_J19 F_spec_l10Run_J27
    rw [hc, ek]
    simp only [beqI, decide_eq_false h1, decide_eq_false h2, decide_eq_false h3, decide_eq_false h4, decide_eq_false h5, decide_eq_false h13, decide_eq_false h14, cond_false]
    rfl
  have e2 : F_impl_reader_read_0f1e_B k q' s (pos : Int) 0 optsR ks p = some (-1, (pos : Int), 3, p) := by
    rw [implB hk hs h hp hg hks hkl hc, beqI, decide_eq_false h2, cond_false]
    unfold F_impl_reader_read_0f1e_J7 F_impl_reader_read_0f1e_J17 F_impl_reader_read_0f1e_J24
    rw [oneF hk (s := ⟨#[40, 123, 91]⟩) (by decide) (by simp; omega), oneF hk (s := ⟨#[35, 94]⟩) (by decide) (by simp; omega), oneF hk (s := ⟨#[60, 62, 33]⟩) (by decide) (by simp; omega), oneF hk (s := ⟨#[107, 42]⟩) (by decide) (by simp; omega), oneF hk (s := ⟨#[111, 120]⟩) (by decide) (by simp; omega)]
    simp only [fail0, Option.bind_some, cond_false]
    rw [one_eq hk _ _ (by decide), oneF hk (s := optsR) (by decide) (by simp; omega)]
    simp only [Option.bind_some]
    cases List.any _ _ <;> rfl
  rw [e1, e2]
  exact ⟨_, _, rfl, rfl, .inr ⟨show (3 : Int) ≠ 0 by decide, show (3 : Int) ≠ 0 by decide⟩⟩
theorem readB_eq : ∃ R R', F_spec_l10Run_B k q p ks s (pos : Int) = some R ∧ F_impl_reader_read_0f1e_B k q' s (pos : Int) 0 optsR ks p = some R' ∧ SameR s p pos R R' := by
  by_cases h1 : bt s (pos : Int) = 64; · exact c64 hk hs h hp hg hks hkl h1
  by_cases h2 : bt s (pos : Int) = 110; · exact c110 hk hs h hp hg hks hkl h2
  by_cases h3 : bt s (pos : Int) = 60; · exact cApply hk hs h hp hg hks hkl (.inl rfl) h3
  by_cases h4 : bt s (pos : Int) = 62; · exact cApply hk hs h hp hg hks hkl (.inr (.inl rfl)) h4
  by_cases h5 : bt s (pos : Int) = 33; · exact cApply hk hs h hp hg hks hkl (.inr (.inr rfl)) h5
  by_cases h6 : bt s (pos : Int) = 35; · exact cOne hk hs h hp hg hks hkl (.inl ⟨rfl, rfl⟩) h6
  by_cases h7 : bt s (pos : Int) = 94; · exact cOne hk hs h hp hg hks hkl (.inr ⟨rfl, rfl⟩) h7
  by_cases h8 : bt s (pos : Int) = 40; · exact cTwo hk hs h hp hg hks hkl (.inl ⟨rfl, rfl, rfl⟩) h8
  by_cases h9 : bt s (pos : Int) = 123; · exact cTwo hk hs h hp hg hks hkl (.inr (.inl ⟨rfl, rfl, rfl⟩)) h9
  by_cases h10 : bt s (pos : Int) = 91; · exact cTwo hk hs h hp hg hks hkl (.inr (.inr ⟨rfl, rfl, rfl⟩)) h10
  by_cases h11 : bt s (pos : Int) = 107; · exact cOpen hk hs h hp hg hks hkl (.inl ⟨rfl, rfl⟩) h11
  by_cases h12 : bt s (pos : Int) = 42; · exact cOpen hk hs h hp hg hks hkl (.inr ⟨rfl, rfl⟩) h12
  by_cases h13 : bt s (pos : Int) = 111; · exact cBoth hk hs h hp hg hks hkl (.inl rfl) h13
  by_cases h14 : bt s (pos : Int) = 120; · exact cBoth hk hs h hp hg hks hkl (.inr rfl) h14
  exact cElse hk hs h hp hg hks hkl ⟨h1, h2, h3, h4, h5, h6, h7, h8, h9, h10, h11, h12, h13, h14⟩ rfl
end
theorem run_eq {k : Nat} (hk : K0 ≤ k) {s : ByteArray} (hs : s.size ≤ 3000000) {ks : List Int} (hkl : ks.length ≤ 3000000) : ∀ (m pos : Nat) (p : List Nd), s.size - pos < m → pos ≤ s.size → Good p → (∀ x ∈ ks, hasB p x = true) →
    ∃ R R', F_spec_l10Run k m p ks s (pos : Int) = some R ∧ F_impl_reader_read_0f1e k m s (pos : Int) 0 optsR ks p = some R' ∧ SameR s p pos R R'
  | 0, pos, p, h, _, _, _ => absurd h (by omega)
  | m + 1, pos, p, h, hp, hg, hks => by
    unfold F_spec_l10Run F_impl_reader_read_0f1e
    rcases Nat.lt_or_ge pos s.size with hl | hl
    · refine readB_eq hk hs ⟨fun pos' P h1 h2 g l => run_eq hk hs hkl m pos' P (by omega) h2 g (fun x hx => hasB_mono (hks x hx) l), fun pos' e P he => ?_⟩ hl hg hks hkl
      obtain ⟨m', rfl⟩ : ∃ m', m = m' + 1 := ⟨m - 1, by omega⟩
      unfold F_impl_reader_read_0f1e F_impl_reader_read_0f1e_B
      rw [dne0 he, cond_true]
    · exact readB_past _ _ s ks p pos hl
theorem recipe_eq {k : Nat} (hk : K0 ≤ k) (s : ByteArray) (hs : s.size ≤ 3000000) (p : List Nd) (ks : List Int) (hp : poolOk p = true) (hkn : knowOk p ks = true) :
    ∃ R R', F_spec_RecipeRun k p ks s = some R ∧ F_impl_RecipeRun k p ks s = some R' ∧ ((R = R' ∧ R.2.2.1 = 0 ∧ Good R.2.2.2 ∧ p.length ≤ R.2.2.2.length ∧ hasB R.2.2.2 R.1 = true) ∨ (R.2.2.1 ≠ 0 ∧ R'.2.2.1 ≠ 0)) := by
  have hl := poolOk_len hp
  have hkl := knowOk_len hkn
  unfold F_spec_RecipeRun F_impl_RecipeRun F_spec_RecipeRun_J2 F_impl_reader_all_51fc F_impl_reader_all_51fc_J4
  rw [poolOk_eq hk, hp, copy_eq k p (by omega), orEmpty_eq hk, knowOk_eq hk p ks (by omega) (by omega), iKnowOk_eq hk p ks (by omega) (by omega), hp, hkn, copyPool_eq k p (by omega)]
  simp only [Option.bind_some, cond_true, Bool.true_and, Bool.not_true, cond_false]
  by_cases h2 : s.size ≤ 2000
  rotate_left
  · rw [decide_eq_true (show (s.size : Int) > 2000 by omega), cond_true, cond_true]
    exact ⟨_, _, rfl, rfl, .inr ⟨show (1 : Int) ≠ 0 by decide, show (1 : Int) ≠ 0 by decide⟩⟩
  rw [decide_eq_false (show ¬ (s.size : Int) > 2000 by omega)]
  simp only [cond_false]
  obtain ⟨R, R', e1, e2, hR⟩ := run_eq hk hs (ks := ks) (by omega) k 0 p (by simp only [K0] at hk; omega) (by omega) ⟨hl, poolOk_right hp⟩ (fun x hx => knowOk_has hkn hx)
  rw [show ((0 : Nat) : Int) = 0 from rfl] at e1 e2
  rw [e1, e2]
  simp only [Option.bind_some]
  rcases hR with ⟨P, v, e, rfl, rfl, g1, l1, b1, hpe, hes⟩ | ⟨hE, hE'⟩
  · simp only [bne_self_eq_false, beq_self_eq_true, cond_true, cond_false, fail0, Option.bind_some]
    by_cases hlt : e < s.size
    · rw [dlt hlt]
      simp only [cond_true, Option.bind_some]
      rw [show ((6 : Int) != 0) = true from rfl]
      simp only [cond_true, Option.bind_some]
      exact ⟨_, _, rfl, rfl, .inr ⟨show (6 : Int) ≠ 0 by decide, show (6 : Int) ≠ 0 by decide⟩⟩
    · rw [dge hlt, copy_eq k P (by have := g1.1; omega)]
      simp only [cond_false, Option.bind_some, bne_self_eq_false]
      have : e = s.size := by omega
      subst this
      exact ⟨_, _, rfl, rfl, .inl ⟨rfl, rfl, g1, l1, b1⟩⟩
  · simp only [dne0 hE, deq0 hE', cond_true, cond_false, Option.bind_some, dne0 hE']
    exact ⟨_, _, rfl, rfl, .inr ⟨hE, hE'⟩⟩
end Go.Proofs.YtmbbapeiikifgaaGreatDoor
