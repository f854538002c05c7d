/- Plain laws, eighth part: the law FnExactStreamDo over its plain form. -/
import Derived.Test.YtmbbapeiikifgaaGreatDoorPg
set_option linter.all false
namespace Go.Proofs.YtmbbapeiikifgaaGreatDoor
open Go
theorem szN (k : Nat) (xs : List Nd) (a : Int) (h0 : 0 ≤ a ∧ a ≤ 1048576) (hl : xs.length ≤ 9223372036854775807) : F_laws_szNodeS k xs a = some (if a - xs.length < 0 then -1 else a - xs.length) := by
  unfold F_laws_szNodeS
  rw [w64_id (by omega) (by omega)]
  by_cases h : a - xs.length < 0
  · rw [dneg h, cond_true, if_pos h]
  · rw [dnneg h, cond_false, if_neg h]
theorem szP (k : Nat) (xs : List Nd) (a : Int) (h0 : 0 ≤ a ∧ a ≤ 1048576) (hl : xs.length ≤ 9223372036854775807) : F_laws_szPool k xs a = some (if a - xs.length < 0 then -1 else a - xs.length) := by
  unfold F_laws_szPool
  rw [szN k xs a h0 hl, Option.bind_some]
  by_cases h : a - xs.length < 0
  · rw [if_pos h]; rfl
  · rw [if_neg h, dnneg h, cond_false]
theorem szI (k : Nat) (xs : List Int) (a : Int) (h0 : 0 ≤ a ∧ a ≤ 1048576) (hl : xs.length ≤ 9223372036854775807) : F_laws_szIntS k xs a = some (if a - xs.length < 0 then -1 else a - xs.length) := by
  unfold F_laws_szIntS
  rw [w64_id (by omega) (by omega)]
  by_cases h : a - xs.length < 0
  · rw [dneg h, cond_true, if_pos h]
  · rw [dnneg h, cond_false, if_neg h]
theorem szT (k : Nat) (a1 a2 : Int) (t : ByteArray) (a : Int) (h0 : 0 ≤ a ∧ a ≤ 1048576) (hl : t.size ≤ 9223372036854775807) : F_laws_szAction k a1 a2 t a = some (if a - t.size < 0 then -1 else a - t.size) := by
  unfold F_laws_szAction
  rw [w64_id (by omega) (by omega)]
  by_cases h : a - t.size < 0
  · rw [dneg h, cond_true, if_pos h]
  · rw [dnneg h, cond_false, if_neg h]
theorem szStream_eq (k : Nat) (p : List Nd) (ks : List Int) (a3 a4 a5 : Int) (a6 : Bool) (a7 a8 a9 : Int) (a10 : Bool) (s h : List Int) (a : Int) (h0 : 0 ≤ a ∧ a ≤ 1048576) (hp : p.length ≤ 9223372036854775807) (hk : ks.length ≤ 9223372036854775807) (hs : s.length ≤ 9223372036854775807) (hh : h.length ≤ 9223372036854775807) :
    ∃ r, F_laws_szStream k p ks a3 a4 a5 a6 a7 a8 a9 a10 s h a = some r ∧ (r < 0 ∨ (r = a - p.length - ks.length - s.length - h.length ∧ 0 ≤ r)) := by
  unfold F_laws_szStream
  rw [szP k p a h0 hp, Option.bind_some]
  by_cases h1 : a - p.length < 0
  · rw [if_pos h1]; exact ⟨-1, rfl, .inl neg1⟩
  rw [if_neg h1, dnneg h1, cond_false, szI k ks _ (by omega) hk, Option.bind_some]
  by_cases h2 : a - p.length - ks.length < 0
  · rw [if_pos h2]; exact ⟨-1, rfl, .inl neg1⟩
  rw [if_neg h2, dnneg h2, cond_false, szI k s _ (by omega) hs, Option.bind_some]
  by_cases h3 : a - p.length - ks.length - s.length < 0
  · rw [if_pos h3]; exact ⟨-1, rfl, .inl neg1⟩
  rw [if_neg h3, dnneg h3, cond_false, szI k h _ (by omega) hh, Option.bind_some]
  by_cases h4 : a - p.length - ks.length - s.length - h.length < 0
  · rw [if_pos h4]; exact ⟨-1, rfl, .inl neg1⟩
  rw [if_neg h4, dnneg h4, cond_false]
  exact ⟨_, rfl, .inr ⟨rfl, by omega⟩⟩
theorem set_mid {α : Type} (xs : List α) (i : Nat) (z x : α) (h : i < xs.length) (hx : xs[i]? = some x) : (xs.take i ++ List.replicate (xs.length - i) z).set i x = xs.take (i + 1) ++ List.replicate (xs.length - (i + 1)) z := by
  have hl : (xs.take i).length = i := by simp; omega
  rw [List.set_append_right _ _ (by omega), hl, Nat.sub_self, show xs.length - i = (xs.length - (i + 1)) + 1 by omega, List.replicate_succ, List.set_cons_zero, List.take_succ, hx]
  simp
theorem mid_len {α : Type} (xs : List α) (i : Nat) (z : α) (h : i ≤ xs.length) : (xs.take i ++ List.replicate (xs.length - i) z).length = xs.length := by simp; omega
theorem toN_L (k : Nat) (xs : List Nd) (hl : xs.length ≤ 3000000) (e : List Nd → Option (List Nd)) : ∀ (n i : Nat), xs.length - i < n → i ≤ xs.length →
    F_laws_toNodeS_L2 k xs e n ((i : Int), xs.take i ++ List.replicate (xs.length - i) (0, (0, 0))) = e xs
  | 0, i, h, _ => absurd h (by omega)
  | n + 1, i, h, hi => by
    unfold F_laws_toNodeS_L2 F_laws_toNode
    simp only []
    by_cases hlt : i < xs.length
    · have hg : xs[i]? = some xs[i] := List.getElem?_eq_getElem hlt
      rw [dlt hlt, cond_true, at?_lt _ _ hlt, Option.bind_some, Option.bind_some, at?_lt _ _ (by rw [mid_len _ _ _ hi]; exact hlt), Option.bind_some, w64_succ (by omega), Int.toNat_natCast]
      rw [show (xs[i].1, (xs[i].2.1, xs[i].2.2)) = xs[i] from rfl, set_mid xs i _ _ hlt hg]
      exact toN_L k xs hl e n (i + 1) (by omega) (by omega)
    · have : i = xs.length := by omega
      subst this
      rw [dge hlt, cond_false]; simp
theorem toP_eq {k : Nat} (hk : K0 ≤ k) (xs : List Nd) (hl : xs.length ≤ 3000000) : F_laws_toPool k xs = some xs := by
  unfold F_laws_toPool F_laws_toNodeS
  rw [if_pos (by omega), Int.toNat_natCast]
  have := toN_L k xs hl (F_laws_toNodeS_J1 k) k 0 (by simp only [K0] at hk; omega) (by omega)
  simp only [List.take_zero, List.nil_append, Nat.sub_zero] at this
  rw [show ((0 : Nat) : Int) = 0 from rfl] at this
  rw [this]; rfl
theorem toI_L (k : Nat) (xs : List Int) (hl : xs.length ≤ 3000000) (e : List Int → Option (List Int)) : ∀ (n i : Nat), xs.length - i < n → i ≤ xs.length →
    F_laws_toIntS_L2 k xs e n ((i : Int), xs.take i ++ List.replicate (xs.length - i) 0) = e xs
  | 0, i, h, _ => absurd h (by omega)
  | n + 1, i, h, hi => by
    unfold F_laws_toIntS_L2
    simp only []
    by_cases hlt : i < xs.length
    · have hg : xs[i]? = some xs[i] := List.getElem?_eq_getElem hlt
      rw [dlt hlt, cond_true, at?_lt _ _ hlt, Option.bind_some, at?_lt _ _ (by rw [mid_len _ _ _ hi]; exact hlt), Option.bind_some, w64_succ (by omega), Int.toNat_natCast, set_mid xs i _ _ hlt hg]
      exact toI_L k xs hl e n (i + 1) (by omega) (by omega)
    · have : i = xs.length := by omega
      subst this
      rw [dge hlt, cond_false]; simp
theorem toI_eq {k : Nat} (hk : K0 ≤ k) (xs : List Int) (hl : xs.length ≤ 3000000) : F_laws_toIntS k xs = some xs := by
  unfold F_laws_toIntS
  rw [if_pos (by omega), Int.toNat_natCast]
  have := toI_L k xs hl (F_laws_toIntS_J1 k) k 0 (by simp only [K0] at hk; omega) (by omega)
  simp only [List.take_zero, List.nil_append, Nat.sub_zero] at this
  rw [show ((0 : Nat) : Int) = 0 from rfl] at this
  rw [this]; rfl
theorem toS_eq {k : Nat} (hk : K0 ≤ k) (p : List Nd) (ks : List Int) (a3 a4 a5 : Int) (a6 : Bool) (a7 a8 a9 : Int) (a10 : Bool) (s h : List Int) (hp : p.length ≤ 3000000) (hks : ks.length ≤ 3000000) (hs : s.length ≤ 3000000) (hh : h.length ≤ 3000000) :
    F_laws_toStream k p ks a3 a4 a5 a6 a7 a8 a9 a10 s h = some (p, ks, s, h) := by
  unfold F_laws_toStream F_laws_toLink
  rw [toP_eq hk p hp, toI_eq hk ks hks, toI_eq hk s hs, toI_eq hk h hh]; rfl
theorem eqN_L (k : Nat) (xs : List Nd) (hl : xs.length ≤ 3000000) (e : Unit → Option Bool) : ∀ (n i : Nat), xs.length - i < n → F_laws_eqNodeS_L3 k xs xs e n (i : Int) = e ()
  | 0, i, h => absurd h (by omega)
  | n + 1, i, h => by
    unfold F_laws_eqNodeS_L3 F_laws_eqNode
    by_cases hlt : i < xs.length
    · rw [dlt hlt, cond_true, at?_lt _ _ hlt]
      simp only [Option.bind_some, bne_self_eq_false, cond_false, Bool.not_true]
      rw [w64_succ (by omega)]
      exact eqN_L k xs hl e n (i + 1) (by omega)
    · rw [dge hlt, cond_false]
theorem eqP_eq {k : Nat} (hk : K0 ≤ k) (xs : List Nd) (hl : xs.length ≤ 3000000) : F_laws_eqPool k xs xs = some true := by
  unfold F_laws_eqPool F_laws_eqNodeS
  rw [bne_self_eq_false, cond_false]
  have := eqN_L k xs hl (F_laws_eqNodeS_J2 k) k 0 (by simp only [K0] at hk; omega)
  rw [show ((0 : Nat) : Int) = 0 from rfl] at this
  rw [this]; rfl
theorem eqI_L (k : Nat) (xs : List Int) (hl : xs.length ≤ 3000000) (e : Unit → Option Bool) : ∀ (n i : Nat), xs.length - i < n → F_laws_eqIntS_L3 k xs xs e n (i : Int) = e ()
  | 0, i, h => absurd h (by omega)
  | n + 1, i, h => by
    unfold F_laws_eqIntS_L3
    by_cases hlt : i < xs.length
    · rw [dlt hlt, cond_true, at?_lt _ _ hlt]
      simp only [Option.bind_some, bne_self_eq_false, cond_false]
      rw [w64_succ (by omega)]
      exact eqI_L k xs hl e n (i + 1) (by omega)
    · rw [dge hlt, cond_false]
theorem eqI_eq {k : Nat} (hk : K0 ≤ k) (xs : List Int) (hl : xs.length ≤ 3000000) : F_laws_eqIntS k xs xs = some true := by
  unfold F_laws_eqIntS
  rw [bne_self_eq_false, cond_false]
  have := eqI_L k xs hl (F_laws_eqIntS_J2 k) k 0 (by simp only [K0] at hk; omega)
  rw [show ((0 : Nat) : Int) = 0 from rfl] at this
  rw [this]; rfl
theorem eqS_eq {k : Nat} (hk : K0 ≤ k) (p : List Nd) (ks : List Int) (a3 a4 a5 : Int) (a6 : Bool) (a7 a8 a9 : Int) (a10 : Bool) (s h : List Int) (hp : p.length ≤ 3000000) (hks : ks.length ≤ 3000000) (hs : s.length ≤ 3000000) (hh : h.length ≤ 3000000) :
    F_laws_eqStream k p ks a3 a4 a5 a6 a7 a8 a9 a10 s h p ks a3 a4 a5 a6 a7 a8 a9 a10 s h = some true := by
  unfold F_laws_eqStream F_laws_eqLink
  rw [eqP_eq hk p hp, eqI_eq hk ks hks, eqI_eq hk s hs, eqI_eq hk h hh]
  simp only [Option.bind_some, bne_self_eq_false, cond_false, Bool.not_true]
def markN (m : Int) (n : Nat) : List Nd := (List.range n).map fun (j : Nat) => (m + 3 * (j : Int), (m + 3 * (j : Int) + 1, m + 3 * (j : Int) + 2))
def markI (m : Int) (n : Nat) : List Int := (List.range n).map fun (j : Nat) => m + (j : Int)
theorem markN_len (m : Int) (n : Nat) : (markN m n).length = n := by simp [markN]
theorem markI_len (m : Int) (n : Nat) : (markI m n).length = n := by simp [markI]
theorem markN_succ (m : Int) (n : Nat) : markN m (n + 1) = markN m n ++ [(m + 3 * (n : Int), (m + 3 * (n : Int) + 1, m + 3 * (n : Int) + 2))] := by simp [markN, List.range_succ]
theorem markI_succ (m : Int) (n : Nat) : markI m (n + 1) = markI m n ++ [m + (n : Int)] := by simp [markI, List.range_succ]
theorem set_at {α : Type} (A : List α) (x y : α) (t : List α) (i : Nat) (h : A.length = i) : (A ++ x :: t).set i y = A ++ y :: t := by
  rw [List.set_append_right _ _ (by omega), h, Nat.sub_self, List.set_cons_zero]
theorem at_at {α : Type} (A : List α) (x : α) (t : List α) (i : Nat) (h : A.length = i) : at? (A ++ x :: t) (i : Int) = some x := by
  rw [at?_nat, List.getElem?_append_right (by omega), h, Nat.sub_self]; rfl
theorem mkN_L (k : Nat) (m : Int) (hm : 0 ≤ m ∧ m ≤ 100000000) (xs : List Nd) (hl : xs.length ≤ 3000000) (e : Int × List Nd → Option (Int × List Nd)) : ∀ (n i : Nat), xs.length - i < n → i ≤ xs.length →
    F_laws_markNodeS_10f2_L2 k e n (m + 3 * (i : Int), ((i : Int), markN m i ++ xs.drop i)) = e (m + 3 * (xs.length : Int), markN m xs.length)
  | 0, i, h, _ => absurd h (by omega)
  | n + 1, i, h, hi => by
    unfold F_laws_markNodeS_10f2_L2
    simp only []
    have hlen : (markN m i ++ xs.drop i).length = xs.length := by simp [markN_len]; omega
    rw [hlen]
    by_cases hlt : i < xs.length
    · have hA := markN_len m i
      rw [dlt hlt, cond_true, List.drop_eq_getElem_cons hlt, Int.toNat_natCast]
      simp only [at_at _ _ _ i hA, set_at _ _ _ _ i hA, Option.bind_some]
      rw [w64_id (x := m + 3 * (i : Int) + 1) (by omega) (by omega), w64_id (x := m + 3 * (i : Int) + 1 + 1) (by omega) (by omega), w64_id (x := m + 3 * (i : Int) + 1 + 1 + 1) (by omega) (by omega), w64_succ (by omega)]
      have := mkN_L k m hm xs hl e n (i + 1) (by omega) (by omega)
      rw [markN_succ, List.append_assoc, List.singleton_append] at this
      rw [show m + 3 * (i : Int) + 1 + 1 + 1 = m + 3 * ((i + 1 : Nat) : Int) by omega, show m + 3 * (i : Int) + 1 + 1 = m + 3 * (i : Int) + 2 by omega]
      exact this
    · have : i = xs.length := by omega
      subst this
      rw [dge hlt, cond_false]; simp
theorem mkP_eq {k : Nat} (hk : K0 ≤ k) (m : Int) (hm : 0 ≤ m ∧ m ≤ 100000000) (xs : List Nd) (hl : xs.length ≤ 3000000) : F_laws_markPool_fd6a k m xs = some (m + 3 * (xs.length : Int), markN m xs.length) := by
  unfold F_laws_markPool_fd6a F_laws_markNodeS_10f2
  have := mkN_L k m hm xs hl (F_laws_markNodeS_10f2_J1 k) k 0 (by simp only [K0] at hk; omega) (by omega)
  rw [show ((0 : Nat) : Int) = 0 from rfl, Int.mul_zero, Int.add_zero, show markN m 0 ++ xs.drop 0 = xs from rfl] at this
  rw [this]; rfl
theorem mkI_L (k : Nat) (m : Int) (hm : 0 ≤ m ∧ m ≤ 100000000) (xs : List Int) (hl : xs.length ≤ 3000000) (e : Int × List Int → Option (Int × List Int)) : ∀ (n i : Nat), xs.length - i < n → i ≤ xs.length →
    F_laws_markIntS_f72a_L2 k e n (m + (i : Int), ((i : Int), markI m i ++ xs.drop i)) = e (m + (xs.length : Int), markI m xs.length)
  | 0, i, h, _ => absurd h (by omega)
  | n + 1, i, h, hi => by
    unfold F_laws_markIntS_f72a_L2
    simp only []
    have hlen : (markI m i ++ xs.drop i).length = xs.length := by simp [markI_len]; omega
    rw [hlen]
    by_cases hlt : i < xs.length
    · have hA := markI_len m i
      rw [dlt hlt, cond_true, List.drop_eq_getElem_cons hlt, Int.toNat_natCast]
      simp only [at_at _ _ _ i hA, set_at _ _ _ _ i hA, Option.bind_some]
      rw [w64_id (x := m + (i : Int) + 1) (by omega) (by omega), w64_succ (by omega)]
      have := mkI_L k m hm xs hl e n (i + 1) (by omega) (by omega)
      rw [markI_succ, List.append_assoc, List.singleton_append] at this
      rw [show m + (i : Int) + 1 = m + ((i + 1 : Nat) : Int) by omega]
      exact this
    · have : i = xs.length := by omega
      subst this
      rw [dge hlt, cond_false]; simp
theorem mkI_eq {k : Nat} (hk : K0 ≤ k) (m : Int) (hm : 0 ≤ m ∧ m ≤ 100000000) (xs : List Int) (hl : xs.length ≤ 3000000) : F_laws_markIntS_f72a k m xs = some (m + (xs.length : Int), markI m xs.length) := by
  unfold F_laws_markIntS_f72a
  have := mkI_L k m hm xs hl (F_laws_markIntS_f72a_J1 k) k 0 (by simp only [K0] at hk; omega) (by omega)
  rw [show ((0 : Nat) : Int) = 0 from rfl, Int.add_zero, show markI m 0 ++ xs.drop 0 = xs from rfl] at this
  rw [this]; rfl
theorem markN_at (m : Int) (n i : Nat) (h : i < n) : at? (markN m n) (i : Int) = some (m + 3 * (i : Int), (m + 3 * (i : Int) + 1, m + 3 * (i : Int) + 2)) := by
  rw [at?_nat]; simp [markN, h]
theorem markI_at (m : Int) (n i : Nat) (h : i < n) : at? (markI m n) (i : Int) = some (m + (i : Int)) := by
  rw [at?_nat]; simp [markI, h]
theorem hdN_L (k : Nat) (m : Int) (hm : 0 ≤ m ∧ m ≤ 100000000) (N : Nat) (hl : N ≤ 3000000) (e : Int → Option Int) : ∀ (n i : Nat), N - i < n → i ≤ N →
    F_laws_heldNodeS_L2 k (markN m N) e n (m + 3 * (i : Int), (i : Int)) = e (m + 3 * (N : Int))
  | 0, i, h, _ => absurd h (by omega)
  | n + 1, i, h, hi => by
    unfold F_laws_heldNodeS_L2
    simp only [markN_len]
    by_cases hlt : i < N
    · rw [dlt hlt, cond_true, markN_at m N i hlt]
      simp only [Option.bind_some, bne_self_eq_false, cond_false]
      rw [w64_id (x := m + 3 * (i : Int) + 1) (by omega) (by omega), w64_id (x := m + 3 * (i : Int) + 1 + 1) (by omega) (by omega), w64_id (x := m + 3 * (i : Int) + 1 + 1 + 1) (by omega) (by omega), w64_succ (by omega)]
      rw [show m + 3 * (i : Int) + 1 + 1 + 1 = m + 3 * ((i + 1 : Nat) : Int) by omega, show m + 3 * (i : Int) + 1 + 1 = m + 3 * (i : Int) + 2 by omega]
      simp only [bne_self_eq_false, cond_false]
      exact hdN_L k m hm N hl e n (i + 1) (by omega) (by omega)
    · have : i = N := by omega
      subst this
      rw [dge hlt, cond_false]
theorem hdP_eq {k : Nat} (hk : K0 ≤ k) (m : Int) (hm : 0 ≤ m ∧ m ≤ 100000000) (N : Nat) (hl : N ≤ 3000000) : F_laws_heldPool k (markN m N) m = some (m + 3 * (N : Int)) := by
  unfold F_laws_heldPool F_laws_heldNodeS
  have := hdN_L k m hm N hl (F_laws_heldNodeS_J1 k) k 0 (by simp only [K0] at hk; omega) (by omega)
  rw [show ((0 : Nat) : Int) = 0 from rfl, Int.mul_zero, Int.add_zero] at this
  rw [this]
  unfold F_laws_heldNodeS_J1
  rw [Option.bind_some, dnneg (by omega), cond_false]
theorem hdI_L (k : Nat) (m : Int) (hm : 0 ≤ m ∧ m ≤ 100000000) (N : Nat) (hl : N ≤ 3000000) (e : Int → Option Int) : ∀ (n i : Nat), N - i < n → i ≤ N →
    F_laws_heldIntS_L2 k (markI m N) e n (m + (i : Int), (i : Int)) = e (m + (N : Int))
  | 0, i, h, _ => absurd h (by omega)
  | n + 1, i, h, hi => by
    unfold F_laws_heldIntS_L2
    simp only [markI_len]
    by_cases hlt : i < N
    · rw [dlt hlt, cond_true, markI_at m N i hlt]
      simp only [Option.bind_some, bne_self_eq_false, cond_false]
      rw [w64_id (x := m + (i : Int) + 1) (by omega) (by omega), w64_succ (by omega)]
      rw [show m + (i : Int) + 1 = m + ((i + 1 : Nat) : Int) by omega]
      exact hdI_L k m hm N hl e n (i + 1) (by omega) (by omega)
    · have : i = N := by omega
      subst this
      rw [dge hlt, cond_false]
theorem hdI_eq {k : Nat} (hk : K0 ≤ k) (m : Int) (hm : 0 ≤ m ∧ m ≤ 100000000) (N : Nat) (hl : N ≤ 3000000) : F_laws_heldIntS k (markI m N) m = some (m + (N : Int)) := by
  unfold F_laws_heldIntS
  have := hdI_L k m hm N hl (F_laws_heldIntS_J1 k) k 0 (by simp only [K0] at hk; omega) (by omega)
  rw [show ((0 : Nat) : Int) = 0 from rfl, Int.add_zero] at this
  rw [this]; rfl
abbrev mS (p : List Nd) (ks s h : List Int) : Int × List Nd × List Int × List Int × List Int :=
  (1 + 3 * (p.length : Int) + (ks.length : Int) + (s.length : Int) + (h.length : Int), markN 1 p.length, markI (1 + 3 * (p.length : Int)) ks.length, markI (1 + 3 * (p.length : Int) + (ks.length : Int)) s.length, markI (1 + 3 * (p.length : Int) + (ks.length : Int) + (s.length : Int)) h.length)
theorem mkS_eq {k : Nat} (hk : K0 ≤ k) (a1 a2 a3 : Int) (a4 : Bool) (a5 a6 a7 : Int) (a8 : Bool) (p : List Nd) (ks s h : List Int) (hp : p.length ≤ 3000000) (hks : ks.length ≤ 3000000) (hs : s.length ≤ 3000000) (hh : h.length ≤ 3000000) :
    F_laws_markStream_3c3c k a1 a2 a3 a4 a5 a6 a7 a8 1 p ks s h = some (mS p ks s h) := by
  unfold F_laws_markStream_3c3c
  rw [mkP_eq hk 1 (by omega) p hp]
  simp only [Option.bind_some]
  rw [mkI_eq hk _ (by omega) ks hks]
  simp only [Option.bind_some]
  rw [mkI_eq hk _ (by omega) s hs]
  simp only [Option.bind_some]
  rw [mkI_eq hk _ (by omega) h hh]
  rfl
theorem hdS_eq {k : Nat} (hk : K0 ≤ k) (a3 a4 a5 : Int) (a6 : Bool) (a7 a8 a9 : Int) (a10 : Bool) (p : List Nd) (ks s h : List Int) (hp : p.length ≤ 3000000) (hks : ks.length ≤ 3000000) (hs : s.length ≤ 3000000) (hh : h.length ≤ 3000000) :
    F_laws_heldStream k (mS p ks s h).2.1 (mS p ks s h).2.2.1 a3 a4 a5 a6 a7 a8 a9 a10 (mS p ks s h).2.2.2.1 (mS p ks s h).2.2.2.2 1 = some (mS p ks s h).1 := by
  unfold F_laws_heldStream
  simp only [mS]
  rw [hdP_eq hk 1 (by omega) _ hp]
  simp only [Option.bind_some]
  rw [dnneg (by omega), cond_false, hdI_eq hk _ (by omega) _ hks]
  simp only [Option.bind_some]
  rw [dnneg (by omega), cond_false, hdI_eq hk _ (by omega) _ hs]
  simp only [Option.bind_some]
  rw [dnneg (by omega), cond_false, hdI_eq hk _ (by omega) _ hh]
  simp only [Option.bind_some]
  rw [dnneg (by omega), cond_false]
end Go.Proofs.YtmbbapeiikifgaaGreatDoor
