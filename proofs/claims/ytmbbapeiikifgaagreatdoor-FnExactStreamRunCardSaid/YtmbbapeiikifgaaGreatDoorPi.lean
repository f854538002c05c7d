/- Plain laws, ninth part: the law FnExactStreamRun over its plain form. -/
import Derived.Test.YtmbbapeiikifgaaGreatDoorPh
set_option linter.all false
namespace Go.Proofs.YtmbbapeiikifgaaGreatDoor
open Go
abbrev Ac := Int × (Int × ByteArray)
theorem run_L {k : Nat} (hk : K0 ≤ k) (as : List Ac) (hl : as.length ≤ 1048576) (hsz : ∀ x ∈ as, x.2.2.size ≤ 1048576) : ∀ (n i : Nat) (c : Int) (b u m : Int) (e : Bool) (b' u' m' : Int) (e' : Bool) (P : List Nd) (K S H : List Int),
    as.length - i < n → (0 ≤ c ∧ c ≤ i) → i ≤ as.length → streamOk P K b u m b' u' m' S H = true →
    ∃ (rb ru rm : Int) (re : Bool) (rb' ru' rm' : Int) (re' : Bool) (cc : Int) (RP : List Nd) (RK RS RH : List Int),
      F_spec_StreamRun_L7 k as (F_spec_StreamRun_J6 k) n (c, ((i : Int), (b, (u, (m, (e, (b', (u', (m', (e', (P, (K, (S, H))))))))))))) = some (rb, ru, rm, re, rb', ru', rm', re', cc, RP, RK, RS, RH) ∧
      F_impl_StreamRun_L7 k as (F_impl_StreamRun_J6 k) n (c, ((i : Int), (b, (u, (m, (e, (b', (u', (m', (e', (P, (K, (S, H))))))))))))) = some (rb, ru, rm, re, rb', ru', rm', re', cc, RP, RK, RS, RH) ∧
      RP.length ≤ 1048576 ∧ RK.length ≤ 1048576 ∧ RS.length ≤ 1048576 ∧ RH.length ≤ 1048576
  | 0, i, c, b, u, m, e, b', u', m', e', P, K, S, H, h, _, _, _ => absurd h (by omega)
  | n + 1, i, c, b, u, m, e, b', u', m', e', P, K, S, H, h, hc, hi, hok => by
    unfold F_spec_StreamRun_L7 F_impl_StreamRun_L7 F_spec_StreamRun_J20 F_impl_StreamRun_J17
    simp only []
    obtain ⟨o, hS, hH⟩ := streamOk_ok hok
    have lp := poolOk_len o.pool
    have lk := knowOk_len o.know
    by_cases hlt : i < as.length
    · rw [dlt hlt, cond_true, cond_true, at?_lt _ _ hlt]
      simp only [Option.bind_some]
      obtain ⟨rb, ru, rm, re, rb', ru', rm', re', ok, RP, RK, RS, RH, q1, q2, l1, l2, l3, l4, q3⟩ := streamDo_eq hk P K b u m e b' u' m' e' S H as[i].1 as[i].2.1 as[i].2.2 (by omega) (by omega) (by omega) (by omega) (hsz _ (List.getElem_mem hlt))
      rw [q1, q2]
      simp only [Option.bind_some]
      obtain ⟨q4, q5⟩ := q3 hok
      rw [w64_succ (by omega)]
      cases ok
      · simp only [cond_false]
        have q6 := q5 rfl
        simp only [Prod.mk.injEq] at q6
        obtain ⟨rfl, rfl, rfl, rfl, rfl, rfl, rfl, rfl, rfl, rfl, rfl, rfl⟩ := q6
        exact run_L hk as hl hsz n (i + 1) c _ _ _ _ _ _ _ _ _ _ _ _ (by omega) (by omega) (by omega) hok
      · simp only [cond_true]
        rw [w64_id (x := c + 1) (by omega) (by omega)]
        exact run_L hk as hl hsz n (i + 1) (c + 1) _ _ _ _ _ _ _ _ _ _ _ _ (by omega) (by omega) (by omega) q4
    · rw [dge hlt, cond_false, cond_false]
      exact ⟨b, u, m, e, b', u', m', e', c, P, K, S, H, rfl, rfl, by omega, by omega, by omega, by omega⟩
theorem run_pair {k : Nat} (hk : K0 ≤ k) (p : List Nd) (ks : List Int) (a t n : Int) (d : Bool) (a' t' n' : Int) (d' : Bool) (s h : List Int) (as : List Ac)
    (hp : p.length ≤ 1048576) (hks : ks.length ≤ 1048576) (hs : s.length ≤ 1048576) (hh : h.length ≤ 1048576) (hl : as.length ≤ 1048576) (hsz : ∀ x ∈ as, x.2.2.size ≤ 1048576) :
    ∃ (rb ru rm : Int) (re : Bool) (rb' ru' rm' : Int) (re' : Bool) (cc : Int) (RP : List Nd) (RK RS RH : List Int),
      F_spec_StreamRun k p ks a t n d a' t' n' d' s h as = some (rb, ru, rm, re, rb', ru', rm', re', cc, RP, RK, RS, RH) ∧
      F_impl_StreamRun k p ks a t n d a' t' n' d' s h as = some (rb, ru, rm, re, rb', ru', rm', re', cc, RP, RK, RS, RH) ∧
      RP.length ≤ 1048576 ∧ RK.length ≤ 1048576 ∧ RS.length ≤ 1048576 ∧ RH.length ≤ 1048576 := by
  unfold F_spec_StreamRun F_impl_StreamRun F_spec_StreamRun_J2 F_impl_StreamRun_J2
  rw [copyS_eq k p ks a t n d a' t' n' d' s h (by omega) (by omega) (by omega) (by omega), copySs_eq k p ks a t n d a' t' n' d' s h (by omega) (by omega) (by omega) (by omega),
    streamOk_eq hk p ks a t n d a' t' n' d' s h (by omega) (by omega) (by omega) (by omega), iStreamOk_eq hk p ks a t n d a' t' n' d' s h (by omega) (by omega) (by omega) (by omega)]
  simp only [Option.bind_some, List.nil_append]
  cases hok : streamOk p ks a t n a' t' n' s h
  · simp only [Bool.not_false, cond_true]
    cases decide ((as.length : Int) > 60)
    · simp only [cond_false]; exact ⟨_, _, _, _, _, _, _, _, _, _, _, _, _, rfl, rfl, hp, hks, hs, hh⟩
    · simp only [cond_true]; exact ⟨_, _, _, _, _, _, _, _, _, _, _, _, _, rfl, rfl, hp, hks, hs, hh⟩
  · simp only [Bool.not_true, cond_false]
    cases decide ((as.length : Int) > 60)
    · simp only [cond_false]
      have := run_L hk as hl hsz k 0 0 a t n d a' t' n' d' p ks s h (by simp only [K0] at hk; omega) (by omega) (by omega) hok
      rw [show ((0 : Nat) : Int) = 0 from rfl] at this
      exact this
    · simp only [cond_true]; exact ⟨_, _, _, _, _, _, _, _, _, _, _, _, _, rfl, rfl, hp, hks, hs, hh⟩
theorem szA_L (k : Nat) (as : List Ac) (hl : as.length ≤ 1048576) (hsz : ∀ x ∈ as, x.2.2.size ≤ 9223372036854775807) : ∀ (n i : Nat) (a : Int), as.length - i < n → (0 ≤ a ∧ a ≤ 1048576) →
    ∃ r, F_laws_szActionS_L3 k as (F_laws_szActionS_J2 k) n (a, (i : Int)) = some r ∧ (r < 0 ∨ (∀ (j : Nat) x, i ≤ j → as[j]? = some x → x.2.2.size ≤ 1048576))
  | 0, i, a, h, _ => absurd h (by omega)
  | n + 1, i, a, h, ha => by
    unfold F_laws_szActionS_L3
    simp only []
    by_cases hlt : i < as.length
    · rw [dlt hlt, cond_true, at?_lt _ _ hlt]
      simp only [Option.bind_some]
      rw [szT k _ _ as[i].2.2 a ha (hsz _ (List.getElem_mem hlt))]
      simp only [Option.bind_some]
      by_cases h2 : a - as[i].2.2.size < 0
      · rw [if_pos h2]; exact ⟨-1, rfl, .inl neg1⟩
      · rw [if_neg h2, dnneg h2, cond_false, w64_succ (by omega)]
        obtain ⟨r, e1, e2⟩ := szA_L k as hl hsz n (i + 1) (a - as[i].2.2.size) (by omega) (by omega)
        refine ⟨r, e1, ?_⟩
        rcases e2 with e2 | e2
        · exact .inl e2
        · refine .inr fun j x hj hx => ?_
          rcases Nat.eq_or_lt_of_le hj with e | e
          · subst e; rw [List.getElem?_eq_getElem hlt] at hx; cases hx; omega
          · exact e2 j x e hx
    · rw [dge hlt, cond_false]
      refine ⟨_, rfl, .inr fun j x hj hx => ?_⟩
      rw [List.getElem?_eq_none (by omega)] at hx; cases hx
theorem szA_eq {k : Nat} (hk : K0 ≤ k) (as : List Ac) (a : Int) (ha : 0 ≤ a ∧ a ≤ 1048576) (hl : as.length ≤ 9223372036854775807) (hsz : ∀ x ∈ as, x.2.2.size ≤ 9223372036854775807) :
    ∃ r, F_laws_szActionS k as a = some r ∧ (r < 0 ∨ (as.length ≤ 1048576 ∧ ∀ x ∈ as, x.2.2.size ≤ 1048576)) := by
  unfold F_laws_szActionS
  rw [w64_id (by omega) (by omega)]
  by_cases h : a - as.length < 0
  · rw [dneg h, cond_true]; exact ⟨_, rfl, .inl neg1⟩
  · rw [dnneg h, cond_false]
    obtain ⟨r, e1, e2⟩ := szA_L k as (by omega) hsz k 0 (a - as.length) (by simp only [K0] at hk; omega) (by omega)
    rw [show ((0 : Nat) : Int) = 0 from rfl] at e1
    refine ⟨r, e1, ?_⟩
    rcases e2 with e2 | e2
    · exact .inl e2
    · refine .inr ⟨by omega, fun x hx => ?_⟩
      obtain ⟨i, hi, rfl⟩ := List.getElem_of_mem hx
      exact e2 i _ (Nat.zero_le _) (List.getElem?_eq_getElem hi)
theorem toA_L (k : Nat) (xs : List Ac) (hl : xs.length ≤ 3000000) (e : List Ac → Option (List Ac)) : ∀ (n i : Nat), xs.length - i < n → i ≤ xs.length →
    F_laws_toActionS_L2 k xs e n ((i : Int), xs.take i ++ List.replicate (xs.length - i) (0, (0, (⟨#[]⟩ : ByteArray)))) = e xs
  | 0, i, h, _ => absurd h (by omega)
  | n + 1, i, h, hi => by
    unfold F_laws_toActionS_L2 F_laws_toAction
    simp only []
    by_cases hlt : i < xs.length
    · have hg : xs[i]? = some xs[i] := List.getElem?_eq_getElem hlt
      rw [dlt hlt, cond_true, at?_lt _ _ hlt, Option.bind_some, Option.bind_some, at?_lt _ _ (by rw [mid_len _ _ _ hi]; exact hlt), Option.bind_some, w64_succ (by omega), Int.toNat_natCast]
      rw [show (xs[i].1, (xs[i].2.1, xs[i].2.2)) = xs[i] from rfl, set_mid xs i _ _ hlt hg]
      exact toA_L k xs hl e n (i + 1) (by omega) (by omega)
    · have : i = xs.length := by omega
      subst this
      rw [dge hlt, cond_false]; simp
theorem toA_eq {k : Nat} (hk : K0 ≤ k) (xs : List Ac) (hl : xs.length ≤ 3000000) : F_laws_toActionS k xs = some xs := by
  unfold F_laws_toActionS
  rw [if_pos (by omega), Int.toNat_natCast]
  have := toA_L k xs hl (F_laws_toActionS_J1 k) k 0 (by simp only [K0] at hk; omega) (by omega)
  simp only [List.take_zero, List.nil_append, Nat.sub_zero] at this
  rw [show ((0 : Nat) : Int) = 0 from rfl] at this
  rw [this]; rfl
theorem eqA_L (k : Nat) (xs : List Ac) (hl : xs.length ≤ 3000000) (e : Unit → Option Bool) : ∀ (n i : Nat), xs.length - i < n → F_laws_eqActionS_L3 k xs xs e n (i : Int) = e ()
  | 0, i, h => absurd h (by omega)
  | n + 1, i, h => by
    unfold F_laws_eqActionS_L3 F_laws_eqAction
    by_cases hlt : i < xs.length
    · rw [dlt hlt, cond_true, at?_lt _ _ hlt]
      simp only [Option.bind_some, bne_self_eq_false, beq_self_eq_true, cond_false, Bool.not_true]
      rw [w64_succ (by omega)]
      exact eqA_L k xs hl e n (i + 1) (by omega)
    · rw [dge hlt, cond_false]
theorem eqA_eq {k : Nat} (hk : K0 ≤ k) (xs : List Ac) (hl : xs.length ≤ 3000000) : F_laws_eqActionS k xs xs = some true := by
  unfold F_laws_eqActionS
  rw [bne_self_eq_false, cond_false]
  have := eqA_L k xs hl (F_laws_eqActionS_J2 k) k 0 (by simp only [K0] at hk; omega)
  rw [show ((0 : Nat) : Int) = 0 from rfl] at this
  rw [this]; rfl
theorem bstr_size (xs : List Int) : (bstr xs).size = xs.length := by simp [bstr, ByteArray.size]
theorem mkT_L (k : Nat) : ∀ (j n : Nat) (s : Nat) (t : ByteArray), s < 10 ^ j → j < n → t.size + j ≤ 18 → ∃ r, F_laws_markText_L3 k (F_laws_markText_J2 k) n ((s : Int), t) = some r := by
  intro j
  induction j with
  | zero =>
    intro n s t h hn ht
    obtain ⟨n, rfl⟩ : ∃ n', n = n' + 1 := ⟨n - 1, by omega⟩
    unfold F_laws_markText_L3
    simp only []
    rw [decide_eq_false (show ¬ (s : Int) > 0 by simp at h; omega), cond_false]
    unfold F_laws_markText_J2
    rw [if_pos (by have : (⟨#[109]⟩ : ByteArray).size = 1 := rfl; omega)]
    exact ⟨_, rfl⟩
  | succ j ih =>
    intro n s t h hn ht
    obtain ⟨n, rfl⟩ : ∃ n', n = n' + 1 := ⟨n - 1, by omega⟩
    unfold F_laws_markText_L3
    simp only []
    by_cases h0 : 0 < s
    · have hb : 10 ^ (j + 1) ≤ 10 ^ 18 := Nat.pow_le_pow_right (by decide) (by omega)
      rw [decide_eq_true (show (s : Int) > 0 by omega), cond_true, if_pos (by rw [bstr_size]; simp; omega)]
      have e1 : w64 (Int.tdiv (s : Int) 10) = ((s / 10 : Nat) : Int) := by
        rw [Int.tdiv_eq_ediv_of_nonneg (by omega), w64_id (by omega) (by omega)]; omega
      rw [e1]
      refine ih n (s / 10) _ (by rw [Nat.pow_succ] at h; omega) (by omega) ?_
      rw [ByteArray.size_append, bstr_size]; simp; omega
    · rw [decide_eq_false (show ¬ (s : Int) > 0 by omega), cond_false]
      unfold F_laws_markText_J2
      rw [if_pos (by have : (⟨#[109]⟩ : ByteArray).size = 1 := rfl; omega)]
      exact ⟨_, rfl⟩
theorem mkT_eq {k : Nat} (hk : K0 ≤ k) (s : Int) (hs : s ≤ 1000000000) : ∃ r, F_laws_markText k s = some r := by
  unfold F_laws_markText
  by_cases h : s ≤ 0
  · rw [decide_eq_true h, cond_true]; exact ⟨_, rfl⟩
  · rw [decide_eq_false h, cond_false]
    obtain ⟨u, rfl⟩ := Int.eq_ofNat_of_zero_le (show 0 ≤ s by omega)
    exact mkT_L k 10 k u _ (by omega) (by simp only [K0] at hk; omega) (by have : (⟨#[]⟩ : ByteArray).size = 0 := rfl; omega)
theorem mkA_L {k : Nat} (hk : K0 ≤ k) (N : Nat) (hN : N ≤ 3000000) : ∀ (n i : Nat) (m : Int) (xs : List Ac), N - i < n → i ≤ N → xs.length = N → (0 ≤ m ∧ m ≤ 100000000 + 3 * i) →
    ∃ r, F_laws_markActionS_fa3f_L2 k (F_laws_markActionS_fa3f_J1 k) n (m, ((i : Int), xs)) = some r ∧ ¬ r.1 < 0
  | 0, i, m, xs, h, _, _, _ => absurd h (by omega)
  | n + 1, i, m, xs, h, hi, hx, hm => by
    unfold F_laws_markActionS_fa3f_L2
    simp only []
    rw [hx]
    by_cases hlt : i < N
    · rw [dlt hlt, cond_true, at?_lt _ _ (by omega)]
      simp only [Option.bind_some, Int.toNat_natCast]
      rw [at?_lt _ _ (by simp; omega)]
      simp only [Option.bind_some]
      rw [w64_id (x := m + 1) (by omega) (by omega), w64_id (x := m + 1 + 1) (by omega) (by omega), w64_id (x := m + 1 + 1 + 1) (by omega) (by omega), w64_succ (by omega)]
      obtain ⟨tx, et⟩ := mkT_eq hk (m + 1 + 1) (by omega)
      rw [et]
      simp only [Option.bind_some]
      rw [at?_lt _ _ (by simp; omega)]
      simp only [Option.bind_some]
      exact mkA_L hk N hN n (i + 1) _ _ (by omega) (by omega) (by simp; omega) (by omega)
    · rw [dge hlt, cond_false]
      exact ⟨_, rfl, by show ¬ m < 0; omega⟩
theorem mkA_eq {k : Nat} (hk : K0 ≤ k) (m : Int) (hm : 0 ≤ m ∧ m ≤ 100000000) (xs : List Ac) (hl : xs.length ≤ 3000000) : ∃ r, F_laws_markActionS_fa3f k m xs = some r ∧ ¬ r.1 < 0 := by
  unfold F_laws_markActionS_fa3f
  have := mkA_L hk xs.length hl k 0 m xs (by simp only [K0] at hk; omega) (by omega) rfl (by omega)
  rw [show ((0 : Nat) : Int) = 0 from rfl] at this
  exact this
theorem law_StreamRun {k : Nat} (hk : K0 ≤ k) (p : List Nd) (ks : List Int) (a t n : Int) (d : Bool) (a' t' n' : Int) (d' : Bool) (s h : List Int) (as : List Ac)
    (hp : p.length ≤ 9223372036854775807) (hks : ks.length ≤ 9223372036854775807) (hs : s.length ≤ 9223372036854775807) (hh : h.length ≤ 9223372036854775807) (has : as.length ≤ 9223372036854775807) (hsz : ∀ x ∈ as, x.2.2.size ≤ 9223372036854775807) :
    F_laws_FnExactStreamRun k p ks a t n d a' t' n' d' s h as = some true := by
  unfold F_laws_FnExactStreamRun
  obtain ⟨r, e1, e2⟩ := szStream_eq k p ks a t n d a' t' n' d' s h 1048576 (by omega) hp hks hs hh
  rw [e1, Option.bind_some]
  rcases e2 with h1 | ⟨h1, h0⟩
  · rw [dneg h1, cond_true]
  rw [dnneg (by omega), cond_false]
  obtain ⟨r2, e3, e4⟩ := szA_eq hk as r (by omega) has hsz
  rw [e3, Option.bind_some]
  rcases e4 with h2 | ⟨hl, hz⟩
  · rw [dneg h2, cond_true]
  cases hr2 : decide (r2 < 0)
  rotate_left
  · rw [cond_true]
  rw [cond_false, toS_eq hk p ks a t n d a' t' n' d' s h (by omega) (by omega) (by omega) (by omega), toA_eq hk as (by omega)]
  simp only [Option.bind_some]
  obtain ⟨b, u, m, e, b', u', m', e', cc, P, K, S, H, q1, q2, l1, l2, l3, l4⟩ := run_pair hk p ks a t n d a' t' n' d' s h as (by omega) (by omega) (by omega) (by omega) hl hz
  rw [q1, q2]
  simp only [Option.bind_some]
  rw [eqS_eq hk P K b u m e b' u' m' e' S H (by omega) (by omega) (by omega) (by omega)]
  simp only [Option.bind_some, Bool.not_true, cond_false, bne_self_eq_false]
  unfold F_laws_FnExactStreamRun_J11
  rw [cond_false, toS_eq hk p ks a t n d a' t' n' d' s h (by omega) (by omega) (by omega) (by omega)]
  simp only [Option.bind_some]
  rw [eqS_eq hk p ks a t n d a' t' n' d' s h (by omega) (by omega) (by omega) (by omega)]
  simp only [Option.bind_some, Bool.not_true, cond_false]
  rw [toA_eq hk as (by omega)]
  simp only [Option.bind_some]
  rw [eqA_eq hk as (by omega)]
  simp only [Option.bind_some, Bool.not_true, cond_false]
  rw [mkS_eq hk _ _ _ _ _ _ _ _ p ks s h (by omega) (by omega) (by omega) (by omega)]
  simp only [Option.bind_some]
  obtain ⟨rA, eA, hA⟩ := mkA_eq hk (mS p ks s h).1 (by simp only [mS]; omega) as (by omega)
  rw [eA]
  simp only [Option.bind_some]
  rw [dnneg hA, cond_false]
  rw [eqS_eq hk P K b u m e b' u' m' e' S H (by omega) (by omega) (by omega) (by omega)]
  simp only [Option.bind_some, Bool.not_true, cond_false, bne_self_eq_false]
  unfold F_laws_FnExactStreamRun_J26
  rw [cond_false]
  simp only []
  rw [mkS_eq hk _ _ _ _ _ _ _ _ P K S H (by omega) (by omega) (by omega) (by omega)]
  simp only [Option.bind_some]
  rw [hdS_eq hk _ _ _ _ _ _ _ _ P K S H (by omega) (by omega) (by omega) (by omega)]
  simp only [Option.bind_some]
  rw [dnneg (show ¬ (mS P K S H).1 < 0 by simp only [mS]; omega), cond_false, bne_self_eq_false, cond_false]
  rw [toS_eq hk p ks a t n d a' t' n' d' s h (by omega) (by omega) (by omega) (by omega), toA_eq hk as (by omega)]
  simp only [Option.bind_some]
  rw [q2]
  simp only [Option.bind_some]
  rw [eqS_eq hk P K b u m e b' u' m' e' S H (by omega) (by omega) (by omega) (by omega)]
  simp only [Option.bind_some, Bool.not_true, cond_false, bne_self_eq_false]
  unfold F_laws_FnExactStreamRun_J37
  rw [cond_false]
  simp only []
  rw [hdS_eq hk _ _ _ _ _ _ _ _ P K S H (by omega) (by omega) (by omega) (by omega)]
  simp only [Option.bind_some]
  rw [dnneg (show ¬ (mS P K S H).1 < 0 by simp only [mS]; omega), cond_false, bne_self_eq_false, cond_false]
end Go.Proofs.YtmbbapeiikifgaaGreatDoor
