/- Plain laws, fourth part: numerals. -/
import Derived.Test.YtmbbapeiikifgaaGreatDoorPc
set_option linter.all false
namespace Go.Proofs.YtmbbapeiikifgaaGreatDoor
open Go
theorem bt_eq (s : ByteArray) (i : Nat) (h : i < s.data.toList.length) : bt s (i : Int) = ((s.data.toList[i]).toNat : Int) := by
  unfold bt
  have h' : i < s.size := by simpa using h
  rw [dif_pos (by simpa using h')]
  simp [ByteArray.getElem_eq_getElem_data]
theorem size_eq (s : ByteArray) : s.data.toList.length = s.size := by simp
def isDig (b : UInt8) : Bool := decide (48 ≤ b.toNat ∧ b.toNat ≤ 57)
def valD (l : List UInt8) : Nat := l.foldl (fun a b => 10 * a + (b.toNat - 48)) 0
def digs (s : ByteArray) (p : Nat) : List UInt8 := (s.data.toList.drop p).takeWhile isDig
def okD (m : Nat) (l : List UInt8) : Prop := 1 ≤ l.length ∧ l.length ≤ m ∧ (l.length = 1 ∨ l.head? ≠ some 48)
theorem valD_snoc (l : List UInt8) (b : UInt8) : valD (l ++ [b]) = 10 * valD l + (b.toNat - 48) := by
  unfold valD; simp
theorem valD_lt : ∀ (n : Nat) (l : List UInt8), l.length = n → (∀ b ∈ l, isDig b = true) → valD l < 10 ^ l.length
  | 0, l, h, _ => by rw [List.length_eq_zero_iff.1 h]; decide
  | n + 1, l, h, hd => by
    have hne : l ≠ [] := by intro e; rw [e] at h; cases h
    rw [← List.dropLast_concat_getLast hne, valD_snoc]
    have := valD_lt n l.dropLast (by simp [h]) (fun b hb => hd b ((List.dropLast_sublist _).subset hb))
    have h2 := hd _ (List.getLast_mem hne)
    unfold isDig at h2
    simp only [decide_eq_true_eq] at h2
    rw [List.length_append, List.length_singleton, Nat.pow_succ]; omega
theorem decDigits_val : ∀ (n : Nat) (l : List UInt8), l.length = n + 1 → (∀ b ∈ l, isDig b = true) → l.head? ≠ some 48 → Lib.decDigits (valD l) = l ∧ 10 ^ n ≤ valD l
  | 0, l, h, hd, hh => by
    obtain ⟨b, rfl⟩ := List.length_eq_one_iff.1 h
    have h2 := hd b (by simp)
    unfold isDig at h2
    simp only [decide_eq_true_eq] at h2
    have hne : b.toNat ≠ 48 := fun e => hh (by
      rw [List.head?_cons]; congr 1
      exact UInt8.toNat_inj.1 e)
    have hv : valD [b] = b.toNat - 48 := by simp [valD]
    rw [hv]
    refine ⟨?_, by omega⟩
    rw [Lib.decDigits, dif_pos (by omega), show 48 + (b.toNat - 48) = b.toNat by omega]
    simp
  | n + 1, l, h, hd, hh => by
    have hne : l ≠ [] := by intro e; rw [e] at h; cases h
    have hlen : l.dropLast.length = n + 1 := by simp [h]
    have hne2 : l.dropLast ≠ [] := by intro e; rw [e] at hlen; cases hlen
    have hl := List.dropLast_concat_getLast hne
    have ih := decDigits_val n l.dropLast hlen (fun b hb => hd b ((List.dropLast_sublist _).subset hb)) (by
      intro e; apply hh; rw [← hl]
      cases hdl : l.dropLast with
      | nil => exact absurd hdl hne2
      | cons a t => rw [hdl] at e; simpa using e)
    have h2 := hd _ (List.getLast_mem hne)
    unfold isDig at h2
    simp only [decide_eq_true_eq] at h2
    have hp : 1 ≤ 10 ^ n := Nat.one_le_pow _ _ (by decide)
    rw [← hl, valD_snoc]
    refine ⟨?_, by rw [Nat.pow_succ]; omega⟩
    rw [Lib.decDigits, dif_neg (by omega), show (10 * valD l.dropLast + ((l.getLast hne).toNat - 48)) / 10 = valD l.dropLast by omega, ih.1, show 48 + (10 * valD l.dropLast + ((l.getLast hne).toNat - 48)) % 10 = (l.getLast hne).toNat by omega]
    simp
theorem decDigits_head : ∀ (n u : Nat), u ≤ n → 1 ≤ u → ∃ b t, Lib.decDigits u = b :: t ∧ b ≠ 48
  | 0, u, h, h1 => by omega
  | n + 1, u, h, h1 => by
    rw [Lib.decDigits]
    by_cases hu : u < 10
    · rw [dif_pos hu]
      refine ⟨_, _, rfl, fun e => ?_⟩
      have := congrArg UInt8.toNat e
      simp at this; omega
    · rw [dif_neg hu]
      obtain ⟨b, t, e, hb⟩ := decDigits_head n (u / 10) (by omega) (by omega)
      exact ⟨b, _, by rw [e]; rfl, hb⟩
theorem decDigits_iff {l : List UInt8} (hne : l ≠ []) (hd : ∀ b ∈ l, isDig b = true) : Lib.decDigits (valD l) = l ↔ (l.length = 1 ∨ l.head? ≠ some 48) := by
  have hpos : 0 < l.length := List.length_pos_iff.2 hne
  constructor
  · intro h
    rcases Nat.eq_zero_or_pos (valD l) with hz | hz
    · left; rw [← h, hz, Lib.decDigits, dif_pos (by omega)]; rfl
    · right
      obtain ⟨b, t, e, hb⟩ := decDigits_head _ _ (Nat.le_refl _) hz
      rw [← h, e]; simpa using hb
  · intro h
    rcases h with h | h
    · obtain ⟨b, rfl⟩ := List.length_eq_one_iff.1 h
      have h2 := hd b (by simp)
      unfold isDig at h2
      simp only [decide_eq_true_eq] at h2
      have hv : valD [b] = b.toNat - 48 := by simp [valD]
      rw [hv, Lib.decDigits, dif_pos (by omega), show 48 + (b.toNat - 48) = b.toNat by omega]; simp
    · exact (decDigits_val (l.length - 1) l (by omega) hd h).1
theorem parse_val : ∀ (l pre : List UInt8), (∀ b ∈ pre ++ l, isDig b = true) → (pre ++ l).length ≤ 9 → Lib.parseUint10 (valD pre) l = .ok (valD (pre ++ l))
  | [], pre, _, _ => by simp [Lib.parseUint10]
  | b :: r, pre, hd, hl => by
    have hv : valD pre < 10 ^ pre.length := valD_lt _ _ rfl (fun c hc => hd c (by simp [hc]))
    have h2 := hd b (by simp)
    unfold isDig at h2
    simp only [decide_eq_true_eq] at h2
    have hp : 10 ^ pre.length ≤ 10 ^ 9 := Nat.pow_le_pow_right (by decide) (by simp at hl; omega)
    have ih := parse_val r (pre ++ [b]) (fun c hc => hd c (by simpa using hc)) (by simp at hl ⊢; omega)
    rw [valD_snoc] at ih
    unfold Lib.parseUint10
    rw [if_pos h2, if_neg (by omega), if_neg (by omega), show valD pre * 10 + (b.toNat - 48) = 10 * valD pre + (b.toNat - 48) by omega, ih]
    simp
theorem atoi_val {l : List UInt8} (hne : l ≠ []) (hd : ∀ b ∈ l, isDig b = true) (hl : l.length ≤ 9) : Lib.atoiAll l = .ok (valD l : Int) := by
  cases l with
  | nil => exact absurd rfl hne
  | cons c r =>
    have h2 := hd c (by simp)
    unfold isDig at h2
    simp only [decide_eq_true_eq] at h2
    have := parse_val (c :: r) [] (by simpa using hd) (by simpa using hl)
    simp only [List.nil_append] at this
    have hv : valD (c :: r) < 10 ^ (c :: r).length := valD_lt _ _ rfl hd
    have hp : 10 ^ (c :: r).length ≤ 10 ^ 9 := Nat.pow_le_pow_right (by decide) hl
    unfold Lib.atoiAll Lib.parseMag
    simp only []
    rw [if_neg (show ¬ (c.toNat = 43 ∨ c.toNat = 45) by omega), if_neg (show ¬ (c :: r = []) by simp), show Lib.parseUint10 0 (c :: r) = .ok (valD (c :: r)) from this]
    simp only []
    rw [if_neg (by omega), if_neg (by omega), if_neg (by omega)]
theorem digs_all (s : ByteArray) (p : Nat) : ∀ b ∈ digs s p, isDig b = true := fun b hb => by
  unfold digs at hb
  exact List.all_eq_true.1 (List.all_takeWhile) b hb
theorem digs_step (s : ByteArray) (p : Nat) (h : p < s.data.toList.length) : digs s p = if isDig s.data.toList[p] = true then s.data.toList[p] :: digs s (p + 1) else [] := by
  unfold digs
  rw [List.drop_eq_getElem_cons h, List.takeWhile_cons]
theorem digs_end (s : ByteArray) (p : Nat) (h : ¬ p < s.data.toList.length) : digs s p = [] := by
  unfold digs
  rw [List.drop_eq_nil_of_le (by omega)]; rfl
theorem digs_le (s : ByteArray) (p : Nat) (h : p ≤ s.size) : p + (digs s p).length ≤ s.size := by
  have : (digs s p).length ≤ (s.data.toList.drop p).length := (List.takeWhile_sublist _).length_le
  rw [List.length_drop, size_eq] at this; omega
theorem isDig_bt {s : ByteArray} {i : Nat} (h : i < s.data.toList.length) : isDig s.data.toList[i] = decide (48 ≤ bt s (i : Int) ∧ bt s (i : Int) ≤ 57) := by
  rw [bt_eq s i h]; unfold isDig
  rw [Bool.eq_iff_iff]; simp; omega
theorem itoa_nn (u : Nat) : Lib.itoa (u : Int) = Lib.decDigits u := by unfold Lib.itoa; rw [if_neg (by omega)]; simp
theorem isFigure_eq (k : Nat) (a : Int) : F_impl_isFigure k a = some (decide (48 ≤ a ∧ a ≤ 57)) := by
  unfold F_impl_isFigure
  by_cases h : 48 ≤ a
  · rw [decide_eq_true (show a ≥ 48 from h), cond_true]; simp [h]
  · rw [decide_eq_false (show ¬ a ≥ 48 from h), cond_false]; simp [h]
theorem peek_eq (k : Nat) (s : ByteArray) (i : Nat) (e : Int) (o : ByteArray) (ks : List Int) (p : List Nd) : F_impl_reader_peek_0f1e k s (i : Int) e o ks p = some (if i < s.size then bt s (i : Int) else 0) := by
  unfold F_impl_reader_peek_0f1e
  by_cases h : i < s.size
  · rw [decide_eq_false (by omega), cond_false, if_pos (by omega), if_pos h]
  · rw [decide_eq_true (by omega), cond_true, if_neg h]
theorem fig_L (k : Nat) (s : ByteArray) (hs : s.size ≤ 3000000) (e : Int) (o : ByteArray) (ks : List Int) (p : List Nd) (eJ : Int → Option (Int × Int)) : ∀ (n i : Nat), s.size - i < n → i ≤ s.size →
    F_impl_reader_figures_51fc_L2 k s e o ks p eJ n (i : Int) = eJ ((i + (digs s i).length : Nat) : Int)
  | 0, i, h, _ => absurd h (by omega)
  | n + 1, i, h, hi => by
    unfold F_impl_reader_figures_51fc_L2
    rw [peek_eq, Option.bind_some, isFigure_eq, Option.bind_some]
    by_cases hl : i < s.size
    · have hl' : i < s.data.toList.length := by rw [size_eq]; exact hl
      rw [if_pos hl, ← isDig_bt hl', digs_step s i hl']
      cases hd : isDig s.data.toList[i]
      · rw [cond_false, if_neg (by simp)]; rfl
      · rw [cond_true, if_pos rfl, w64_succ (by omega), fig_L k s hs e o ks p eJ n (i + 1) (by omega) (by omega), List.length_cons]
        congr 2; omega
    · rw [if_neg hl, digs_end s i (by rw [size_eq]; exact hl)]
      rfl
theorem extract_eq (s : ByteArray) (p : Nat) (hp : p ≤ s.size) : (s.extract p (p + (digs s p).length)).data.toList = digs s p := by
  rw [ByteArray.data_extract, Array.toList_extract, List.extract_eq_take_drop, Nat.add_sub_cancel_left]
  have : (digs s p) <+: s.data.toList.drop p := List.takeWhile_prefix _
  exact (List.prefix_iff_eq_take.1 this).symm
open Classical in
theorem figures_eq {k : Nat} (hk : K0 ≤ k) (m : Nat) (hm : m ≤ 9) (s : ByteArray) (hs : s.size ≤ 3000000) (i : Nat) (hi : i ≤ s.size) (e : Int) (o : ByteArray) (ks : List Int) (p : List Nd) :
    F_impl_reader_figures_51fc k (m : Int) s (i : Int) e o ks p = some (if okD m (digs s i) then (valD (digs s i) : Int) else -1, ((i + (digs s i).length : Nat) : Int)) := by
  unfold F_impl_reader_figures_51fc
  rw [fig_L k s hs e o ks p _ k i (by simp only [K0] at hk; omega) hi]
  unfold F_impl_reader_figures_51fc_J1 F_impl_reader_figures_51fc_J17
  have hle := digs_le s i hi
  rw [if_pos (by omega), Int.toNat_natCast, Int.toNat_natCast]
  have hx := extract_eq s i hi
  have hxs : (s.extract i (i + (digs s i).length)).size = (digs s i).length := by rw [← size_eq, hx]
  unfold F_strconv_Atoi
  rw [hxs, if_pos (by omega), hx]
  have hda := digs_all s i
  by_cases hne : digs s i = []
  · rw [hne]
    refine Eq.trans (b := some ((-1 : Int), ((i + ([] : List UInt8).length : Nat) : Int))) rfl ?_
    rw [if_neg (fun h => by have := h.1; simp at this)]
  by_cases hlm : (digs s i).length ≤ m
  · rw [atoi_val hne hda (by omega)]
    have hv : valD (digs s i) < 10 ^ (digs s i).length := valD_lt _ _ rfl hda
    have hp : 10 ^ (digs s i).length ≤ 10 ^ 9 := Nat.pow_le_pow_right (by decide) (by omega)
    simp only [Option.bind_some, cond_false]
    rw [decide_eq_false (by omega), cond_false]
    unfold F_strconv_Itoa
    rw [if_pos (by omega), Option.bind_some, itoa_nn]
    have hiff := decDigits_iff hne hda
    have hpos : 0 < (digs s i).length := List.length_pos_iff.2 hne
    have hL : ∀ b : ByteArray, b.toList = b.data.toList := fun b => ByteArray.toList_eq b
    rw [hL, hL, hx]
    by_cases hok : (digs s i).length = 1 ∨ (digs s i).head? ≠ some 48
    · rw [hiff.2 hok, if_pos ⟨by omega, hlm, hok⟩]; simp
    · have hn : Lib.decDigits (valD (digs s i)) ≠ digs s i := fun hh => hok (hiff.1 hh)
      rw [if_neg (fun h => hok h.2.2), show (Lib.decDigits (valD (digs s i)) == digs s i) = false by simpa using hn]; rfl
  · rw [if_neg (fun h => hlm h.2.1)]
    cases Lib.atoiAll (digs s i) <;> simp only [Option.bind_some, cond_true, cond_false]
    rw [decide_eq_true (by omega), cond_true]
theorem valD_lt' {l : List UInt8} (hd : ∀ b ∈ l, isDig b = true) (j : Nat) (hj : j ≤ 5) (hl : l.length ≤ j) : valD l < 100000 := by
  have := valD_lt _ l rfl hd
  have h2 : 10 ^ l.length ≤ 10 ^ 5 := Nat.pow_le_pow_right (by decide) (by omega)
  omega
theorem take_snoc (s : ByteArray) (p j : Nat) (b : UInt8) (t : List UInt8) (h : (digs s p).drop j = b :: t) : (digs s p).take (j + 1) = (digs s p).take j ++ [b] := by
  have hj : (digs s p)[j]? = some b := by
    have := congrArg (fun l => l[0]?) h
    simpa using this
  rw [List.take_succ, hj]; rfl
theorem digs_drop (s : ByteArray) (p : Nat) : ∀ j, j ≤ (digs s p).length → digs s (p + j) = (digs s p).drop j
  | 0, _ => rfl
  | j + 1, h => by
    have ih := digs_drop s p j (by omega)
    have hlt : p + j < s.data.toList.length := by
      rcases Nat.lt_or_ge (p + j) s.data.toList.length with h1 | h1
      · exact h1
      · rw [digs_end s (p + j) (by omega)] at ih
        have := congrArg List.length ih
        simp at this; omega
    rw [digs_step s (p + j) hlt] at ih
    split at ih
    · have h2 := congrArg (List.drop 1) ih
      simp only [List.drop_succ_cons, List.drop_zero, List.drop_drop] at h2
      rw [← Nat.add_assoc, h2]
    · have := congrArg List.length ih
      simp at this; omega
theorem btw (s : ByteArray) (i : Nat) (h : i < s.data.toList.length) : IntKind.i64.wrap (bt s (i : Int)) = bt s (i : Int) := by
  have e := bt_eq s i h
  have : (s.data.toList[i]).toNat < 256 := UInt8.toNat_lt _
  exact w64_id (by omega) (by omega)
theorem num_L (k : Nat) (s : ByteArray) (hs : s.size ≤ 3000000) (p : Nat) (eJ : Int × Int → Option (Int × Int × Bool)) : ∀ (n j : Nat), 6 - j < n → j ≤ (digs s p).length → j ≤ 5 → p + j ≤ s.size →
    F_spec_l10Num_L2 k s (p : Int) eJ n (((p + j : Nat) : Int), (valD ((digs s p).take j) : Int)) = eJ (((p + min (digs s p).length 5 : Nat) : Int), (valD ((digs s p).take 5) : Int))
  | 0, j, h, _, _, _ => absurd h (by omega)
  | n + 1, j, h, hj, h5, hjs => by
    unfold F_spec_l10Num_L2 F_spec_l10Num_J9
    simp only []
    have hdd := digs_drop s p j hj
    have stop : (j = 5 ∨ (digs s p).length = j) → eJ (((p + j : Nat) : Int), (valD ((digs s p).take j) : Int)) = eJ (((p + min (digs s p).length 5 : Nat) : Int), (valD ((digs s p).take 5) : Int)) := fun hh => by
      rcases hh with hh | hh
      · subst hh; rw [Nat.min_eq_right hj]
      · rw [Nat.min_eq_left (by omega), hh, List.take_of_length_le (by omega), List.take_of_length_le (by omega)]
    by_cases hl : p + j < s.size
    · have hl' : p + j < s.data.toList.length := by rw [size_eq]; exact hl
      rw [dlt hl, cond_true, if_pos (by omega), if_pos (by omega)]
      rw [digs_step s (p + j) hl'] at hdd
      have hdig := isDig_bt hl'
      by_cases hg : isDig s.data.toList[p + j] = true
      · rw [hg] at hdig
        have hdig := of_decide_eq_true hdig.symm
        rw [decide_eq_true (show bt s ((p + j : Nat) : Int) ≥ 48 from hdig.1), cond_true, decide_eq_true hdig.2, cond_true]
        by_cases hj5 : j = 5
        · rw [w64_id (by omega) (by omega), decide_eq_false (by omega), cond_false]; exact stop (.inl hj5)
        · rw [w64_id (x := ((p + j : Nat) : Int) - (p : Int)) (by omega) (by omega), decide_eq_true (by omega), cond_true, btw s _ hl']
          rw [if_pos hg] at hdd
          have ht := take_snoc s p j _ _ hdd.symm
          have hlen : j + 1 ≤ (digs s p).length := by
            have := congrArg List.length hdd
            simp at this; omega
          have hv : valD ((digs s p).take j) < 100000 := valD_lt' (fun b hb => digs_all s p b (List.mem_of_mem_take hb)) 5 (by omega) (by simp; omega)
          have e1 : w64 (w64 (w64 (10 * (valD ((digs s p).take j) : Int)) + bt s ((p + j : Nat) : Int)) - 48) = (valD ((digs s p).take (j + 1)) : Int) := by
            rw [ht, valD_snoc, bt_eq s _ hl'] at *
            rw [w64_id (x := 10 * _) (by omega) (by omega), w64_id (x := _ + _) (by omega) (by omega), w64_id (by omega) (by omega)]
            omega
          rw [if_pos (by omega), e1, w64_succ (by omega), show p + j + 1 = p + (j + 1) by omega]
          exact num_L k s hs p eJ n (j + 1) (by omega) hlen (by omega) (by omega)
      · rw [if_neg hg] at hdd
        have hlen : (digs s p).length = j := by
          have := congrArg List.length hdd
          simp at this; omega
        rw [Bool.not_eq_true] at hg
        rw [hg] at hdig
        have hdig := of_decide_eq_false hdig.symm
        by_cases h48 : bt s ((p + j : Nat) : Int) ≥ 48
        · rw [decide_eq_true h48, cond_true, decide_eq_false (by omega), cond_false, cond_false]; exact stop (.inr hlen)
        · rw [decide_eq_false h48, cond_false, cond_false]; exact stop (.inr hlen)
    · rw [dge hl, cond_false, cond_false]
      rw [digs_end s (p + j) (by rw [size_eq]; exact hl)] at hdd
      have := congrArg List.length hdd
      exact stop (.inr (by simp at this; omega))
theorem nam_L (k : Nat) (s : ByteArray) (hs : s.size ≤ 3000000) (p : Nat) (eJ : Int × Int → Option (Int × Int × Bool)) : ∀ (n j : Nat), 5 - j < n → j ≤ (digs s p).length → j ≤ 4 → p + j ≤ s.size →
    F_spec_l4Name_L2 k s (p : Int) eJ n (((p + j : Nat) : Int), (valD ((digs s p).take j) : Int)) = eJ (((p + min (digs s p).length 4 : Nat) : Int), (valD ((digs s p).take 4) : Int))
  | 0, j, h, _, _, _ => absurd h (by omega)
  | n + 1, j, h, hj, h5, hjs => by
    unfold F_spec_l4Name_L2 F_spec_l4Name_J9
    simp only []
    have hdd := digs_drop s p j hj
    have stop : (j = 4 ∨ (digs s p).length = j) → eJ (((p + j : Nat) : Int), (valD ((digs s p).take j) : Int)) = eJ (((p + min (digs s p).length 4 : Nat) : Int), (valD ((digs s p).take 4) : Int)) := fun hh => by
      rcases hh with hh | hh
      · subst hh; rw [Nat.min_eq_right hj]
      · rw [Nat.min_eq_left (by omega), hh, List.take_of_length_le (by omega), List.take_of_length_le (by omega)]
    by_cases hl : p + j < s.size
    · have hl' : p + j < s.data.toList.length := by rw [size_eq]; exact hl
      rw [dlt hl, cond_true, if_pos (by omega), if_pos (by omega)]
      rw [digs_step s (p + j) hl'] at hdd
      have hdig := isDig_bt hl'
      by_cases hg : isDig s.data.toList[p + j] = true
      · rw [hg] at hdig
        have hdig := of_decide_eq_true hdig.symm
        rw [decide_eq_true (show bt s ((p + j : Nat) : Int) ≥ 48 from hdig.1), cond_true, decide_eq_true hdig.2, cond_true]
        by_cases hj4 : j = 4
        · rw [w64_id (by omega) (by omega), decide_eq_false (by omega), cond_false]; exact stop (.inl hj4)
        · rw [w64_id (x := ((p + j : Nat) : Int) - (p : Int)) (by omega) (by omega), decide_eq_true (by omega), cond_true, btw s _ hl']
          rw [if_pos hg] at hdd
          have ht := take_snoc s p j _ _ hdd.symm
          have hlen : j + 1 ≤ (digs s p).length := by
            have := congrArg List.length hdd
            simp at this; omega
          have hv : valD ((digs s p).take j) < 100000 := valD_lt' (fun b hb => digs_all s p b (List.mem_of_mem_take hb)) 5 (by omega) (by simp; omega)
          have e1 : w64 (w64 (w64 (10 * (valD ((digs s p).take j) : Int)) + bt s ((p + j : Nat) : Int)) - 48) = (valD ((digs s p).take (j + 1)) : Int) := by
            rw [ht, valD_snoc, bt_eq s _ hl'] at *
            rw [w64_id (x := 10 * _) (by omega) (by omega), w64_id (x := _ + _) (by omega) (by omega), w64_id (by omega) (by omega)]
            omega
          rw [if_pos (by omega), e1, w64_succ (by omega), show p + j + 1 = p + (j + 1) by omega]
          exact nam_L k s hs p eJ n (j + 1) (by omega) hlen (by omega) (by omega)
      · rw [if_neg hg] at hdd
        have hlen : (digs s p).length = j := by
          have := congrArg List.length hdd
          simp at this; omega
        rw [Bool.not_eq_true] at hg
        rw [hg] at hdig
        have hdig := of_decide_eq_false hdig.symm
        by_cases h48 : bt s ((p + j : Nat) : Int) ≥ 48
        · rw [decide_eq_true h48, cond_true, decide_eq_false (by omega), cond_false, cond_false]; exact stop (.inr hlen)
        · rw [decide_eq_false h48, cond_false, cond_false]; exact stop (.inr hlen)
    · rw [dge hl, cond_false, cond_false]
      rw [digs_end s (p + j) (by rw [size_eq]; exact hl)] at hdd
      have := congrArg List.length hdd
      exact stop (.inr (by simp at this; omega))
open Classical in
theorem l10Num_eq {k : Nat} (hk : K0 ≤ k) (s : ByteArray) (hs : s.size ≤ 3000000) (p : Nat) (hp : p ≤ s.size) : F_spec_l10Num k s (p : Int) = some (if okD 4 (digs s p) then ((valD (digs s p) : Int), ((p + (digs s p).length : Nat) : Int), true) else (0, 0, false)) := by
  unfold F_spec_l10Num
  have h0 := num_L k s hs p (F_spec_l10Num_J1 k s (p : Int)) k 0 (by simp only [K0] at hk; omega) (by omega) (by omega) (by omega)
  rw [List.take_zero, show ((valD [] : Nat) : Int) = 0 from rfl, Nat.add_zero] at h0
  rw [h0]
  unfold F_spec_l10Num_J1 F_spec_l10Num_J14
  simp only []
  have hle := digs_le s p hp
  rw [beqI, w64_id (by omega) (by omega)]
  by_cases h1 : (digs s p).length = 0
  · rw [decide_eq_true (by omega), cond_true, cond_true, if_neg (fun h => by have := h.1; omega)]
  rw [decide_eq_false (by omega), cond_false]
  by_cases h2 : (digs s p).length ≤ 4
  rotate_left
  · rw [decide_eq_true (by omega), cond_true, cond_true, if_neg (fun h => by have := h.2.1; omega)]
  rw [decide_eq_false (by omega), cond_false, if_pos (by omega), List.take_of_length_le (by omega), Nat.min_eq_left (by omega), beqI]
  have hl' : p < s.data.toList.length := by
    rcases Nat.lt_or_ge p s.data.toList.length with h | h
    · exact h
    · rw [digs_end s p (by omega)] at h1; simp at h1
  have hh : (digs s p).head? = some s.data.toList[p] := by
    have := digs_step s p hl'
    split at this
    · rw [this]; rfl
    · rw [this] at h1; simp at h1
  have hb := bt_eq s p hl'
  by_cases h48 : bt s (p : Int) = 48
  · have e48 : s.data.toList[p] = 48 := UInt8.toNat_inj.1 (by have : (48 : UInt8).toNat = 48 := rfl; omega)
    rw [decide_eq_true h48, cond_true]
    by_cases h3 : (digs s p).length = 1
    · rw [decide_eq_false (by omega), cond_false, if_pos ⟨by omega, h2, .inl h3⟩]
    · rw [decide_eq_true (by omega), cond_true, if_neg (fun h => by
        rcases h.2.2 with h | h
        · exact h3 h
        · rw [hh, e48] at h; exact h rfl)]
  · rw [decide_eq_false h48, cond_false, cond_false, if_pos ⟨by omega, h2, .inr (fun h => by
      rw [hh] at h
      have := Option.some.inj h
      rw [this] at hb
      exact h48 hb)⟩]
open Classical in
theorem l4Name_eq {k : Nat} (hk : K0 ≤ k) (s : ByteArray) (hs : s.size ≤ 3000000) (p : Nat) (hp : p ≤ s.size) : F_spec_l4Name k s (p : Int) = some (if okD 3 (digs s p) ∧ valD (digs s p) < 200 then ((valD (digs s p) : Int), ((p + (digs s p).length : Nat) : Int), true) else (0, 0, false)) := by
  unfold F_spec_l4Name
  have h0 := nam_L k s hs p (F_spec_l4Name_J1 k s (p : Int)) k 0 (by simp only [K0] at hk; omega) (by omega) (by omega) (by omega)
  rw [List.take_zero, show ((valD [] : Nat) : Int) = 0 from rfl, Nat.add_zero] at h0
  rw [h0]
  unfold F_spec_l4Name_J1 F_spec_l4Name_J14
  simp only []
  have hle := digs_le s p hp
  rw [beqI, w64_id (by omega) (by omega)]
  by_cases h1 : (digs s p).length = 0
  · rw [decide_eq_true (by omega), cond_true, cond_true, if_neg (fun h => by have := h.1.1; omega)]
  rw [decide_eq_false (by omega), cond_false]
  by_cases h2 : (digs s p).length ≤ 3
  rotate_left
  · rw [decide_eq_true (by omega), cond_true, cond_true, if_neg (fun h => by have := h.1.2.1; omega)]
  rw [decide_eq_false (by omega), cond_false, if_pos (by omega), List.take_of_length_le (by omega), Nat.min_eq_left (by omega), beqI]
  have hl' : p < s.data.toList.length := by
    rcases Nat.lt_or_ge p s.data.toList.length with h | h
    · exact h
    · rw [digs_end s p (by omega)] at h1; simp at h1
  have hh : (digs s p).head? = some s.data.toList[p] := by
    have := digs_step s p hl'
    split at this
    · rw [this]; rfl
    · rw [this] at h1; simp at h1
  have hb := bt_eq s p hl'
  have fin : (digs s p).length = 1 ∨ (digs s p).head? ≠ some 48 → (bif decide ((valD (digs s p) : Int) ≥ 200) then some ((0 : Int), (0 : Int), false) else some ((valD (digs s p) : Int), ((p + (digs s p).length : Nat) : Int), true)) = some (if okD 3 (digs s p) ∧ valD (digs s p) < 200 then ((valD (digs s p) : Int), ((p + (digs s p).length : Nat) : Int), true) else (0, 0, false)) := fun hok => by
    by_cases h200 : valD (digs s p) < 200
    · rw [decide_eq_false (by omega), cond_false, if_pos ⟨⟨by omega, h2, hok⟩, h200⟩]
    · rw [decide_eq_true (by omega), cond_true, if_neg (fun h => h200 h.2)]
  by_cases h48 : bt s (p : Int) = 48
  · have e48 : s.data.toList[p] = 48 := UInt8.toNat_inj.1 (by have : (48 : UInt8).toNat = 48 := rfl; omega)
    rw [decide_eq_true h48, cond_true]
    by_cases h3 : (digs s p).length = 1
    · rw [decide_eq_false (by omega), cond_false]; exact fin (.inl h3)
    · rw [decide_eq_true (by omega), cond_true, cond_true, if_neg (fun h => by
        rcases h.1.2.2 with h | h
        · exact h3 h
        · rw [hh, e48] at h; exact h rfl)]
  · rw [decide_eq_false h48, cond_false]
    exact fin (.inr (fun h => by
      rw [hh] at h
      have := Option.some.inj h
      rw [this] at hb
      exact h48 hb))
theorem okD_nine {l : List UInt8} (hd : ∀ b ∈ l, isDig b = true) : (okD 9 l ∧ valD l < 200) ↔ (okD 3 l ∧ valD l < 200) := by
  constructor
  · rintro ⟨⟨h1, h2, h3⟩, h4⟩
    refine ⟨⟨h1, ?_, h3⟩, h4⟩
    rcases h3 with h3 | h3
    · omega
    · have := (decDigits_val (l.length - 1) l (by omega) hd h3).2
      rcases Nat.lt_or_ge l.length 4 with h | h
      · omega
      · have : 10 ^ 3 ≤ 10 ^ (l.length - 1) := Nat.pow_le_pow_right (by decide) (by omega)
        omega
  · rintro ⟨⟨h1, h2, h3⟩, h4⟩
    exact ⟨⟨h1, by omega, h3⟩, h4⟩
end Go.Proofs.YtmbbapeiikifgaaGreatDoor
