/- Plain laws, seventh part: StreamDo. -/
import Derived.Test.YtmbbapeiikifgaaGreatDoorPf
set_option linter.all false
namespace Go.Proofs.YtmbbapeiikifgaaGreatDoor
open Go
abbrev emptyB (t : ByteArray) : Bool := t.toList == (⟨#[]⟩ : ByteArray).toList
def actB (a x : Int) (t : ByteArray) : Bool :=
  if a = 1 then emptyB t else if a = 4 then decide (x = 0) else if a = 2 ∨ a = 3 ∨ a = 5 then decide (x = 0) && emptyB t else false
theorem act_eq (k : Nat) (a x : Int) (t : ByteArray) : F_spec_l19Action k a x t = some (actB a x t) := by
  unfold F_spec_l19Action F_spec_l19Action_J1 F_spec_l19Action_J4 actB
  simp only [beqI]
  by_cases h1 : a = 1; · subst h1; simp [emptyB]
  by_cases h4 : a = 4; · subst h4; simp
  by_cases h2 : a = 2; · subst h2; simp [emptyB]
  by_cases h3 : a = 3; · subst h3; simp [emptyB]
  by_cases h5 : a = 5; · subst h5; simp [emptyB]
  simp [h1, h2, h3, h4, h5]
theorem copyS_eq (k : Nat) (p : List Nd) (ks : List Int) (a3 a4 a5 : Int) (a6 : Bool) (a7 a8 a9 : Int) (a10 : Bool) (s h : List Int) (hp : p.length ≤ 3000000) (hk : ks.length ≤ 3000000) (hs : s.length ≤ 3000000) (hh : h.length ≤ 3000000) :
    F_impl_copyStream k p ks a3 a4 a5 a6 a7 a8 a9 a10 s h = some (p, ks, s, h) := by
  unfold F_impl_copyStream
  rw [copyPool_eq k p hp, cloneI_eq k ks hk, cloneI_eq k s hs, cloneI_eq k h hh]; rfl
theorem copySs_eq (k : Nat) (p : List Nd) (ks : List Int) (a3 a4 a5 : Int) (a6 : Bool) (a7 a8 a9 : Int) (a10 : Bool) (s h : List Int) (hp : p.length ≤ 3000000) (hk : ks.length ≤ 3000000) (hs : s.length ≤ 3000000) (hh : h.length ≤ 3000000) :
    F_spec_l19Copy k p ks a3 a4 a5 a6 a7 a8 a9 a10 s h = some () := by
  unfold F_spec_l19Copy
  rw [copy_eq k p hp, Option.bind_some, if_pos (by simp; omega), if_pos (by simp; omega), if_pos (by simp; omega)]
abbrev SD := List Nd × List Int × Int × Int × Int × Bool × Int × Int × Int × Bool × List Int × List Int × Bool
abbrev ID := Bool × Int × Int × Int × Bool × Int × Int × Int × Bool × List Nd × List Int × List Int × List Int
abbrev RD := Int × Int × Int × Bool × Int × Int × Int × Bool × Bool × List Nd × List Int × List Int × List Int
theorem linkB_mono {p P : List Nd} {x u m : Int} (h : linkB p x u m = true) (hl : p.length ≤ P.length) : linkB P x u m = true := by
  unfold linkB at *
  simp only [Bool.and_eq_true] at *
  exact ⟨hasB_mono h.1 hl, h.2⟩
theorem linkB_mk {P : List Nd} {x u m : Int} (h : hasB P x = true) (h1 : 0 ≤ u ∧ u ≤ 20) (h2 : 0 ≤ m ∧ m ≤ 20) : linkB P x u m = true := by
  unfold linkB inB
  simp only [Bool.and_eq_true, decide_eq_true_eq]
  exact ⟨h, h1, h2⟩
theorem linkB_has {P : List Nd} {x u m : Int} (h : linkB P x u m = true) : hasB P x = true := by
  unfold linkB at h
  simp only [Bool.and_eq_true] at h
  exact h.1
theorem sendP_post {p : List Nd} (hp : Good p) (id n x : Int) (d : Bool) (h : 0 ≤ (sendP p id n d x).2.2) :
    Good (sendP p id n d x).1 ∧ p.length ≤ (sendP p id n d x).1.length ∧ hasB (sendP p id n d x).1 (sendP p id n d x).2.2 = true ∧ hasB p x = true ∧ (sendP p id n d x).2.1 = n + 1 ∧ n ≠ 20 := by
  unfold sendP at *
  split at h
  · rename_i hc
    rw [if_pos hc]
    have g := wordP_good hp id n x
    exact ⟨g.1, g.2.1, hasB_iff.2 ⟨h, g.2.2.2⟩, hc.1, rfl, hc.2.2.2.1⟩
  · exact absurd h (show ¬ (0 : Int) ≤ -1 by decide)
theorem closeP_post {p : List Nd} (hp : Good p) (id n : Int) (d : Bool) (h : 0 ≤ (closeP p id n d).2.2) :
    Good (closeP p id n d).1 ∧ p.length ≤ (closeP p id n d).1.length ∧ hasB (closeP p id n d).1 (closeP p id n d).2.2 = true := by
  unfold closeP at *
  split at h
  · rename_i hc
    rw [if_pos hc]
    have g1 := addP_good hp 1 8 0
    have g := wordP_good g1.1 id n (addP p 1 8 0).2
    exact ⟨g.1, by have := g.2.1; have := g1.2.1; simp only []; omega, hasB_iff.2 ⟨h, g.2.2.2⟩⟩
  · exact absurd h (show ¬ (0 : Int) ≤ -1 by decide)
theorem turnP_post {p : List Nd} (hp : Good p) (id t n : Int) (d : Bool) (ht : 0 ≤ t ∧ t ≤ 20) (h : (turnP p id t n d).2.2.2.2.2 = true) :
    Good (turnP p id t n d).1 ∧ p.length ≤ (turnP p id t n d).1.length ∧ linkB (turnP p id t n d).1 (turnP p id t n d).2.1 (turnP p id t n d).2.2.1 (turnP p id t n d).2.2.2.1 = true := by
  unfold turnP at *
  split at h
  · rename_i hc
    rw [if_pos hc]
    have g1 := addP_good hp 1 7 0
    have g := addP_good g1.1 6 id (addP p 1 7 0).2
    exact ⟨g.1, by have := g.2.1; have := g1.2.1; simp only []; omega, linkB_mk (hasB_iff.2 ⟨by have := hc.2.2.2; simp only []; omega, g.2.2.2⟩) (by have := hc.2.1; simp only []; omega) (by simp only []; omega)⟩
  · cases h
structure OkS (P : List Nd) (K : List Int) (b u m b' u' m' : Int) (S H : List Int) : Prop where
  pool : poolOk P = true
  know : knowOk P K = true
  out : linkB P b u m = true
  inn : linkB P b' u' m' = true
  sent : ∀ x ∈ S, hasB P x = true
  got : ∀ x ∈ H, hasB P x = true
theorem Good.ok {P : List Nd} (h : Good P) : poolOk P = true := poolOk_mk h.1 h.2
open Classical in
theorem OkS.stream {P : List Nd} {K : List Int} {b u m b' u' m' : Int} {S H : List Int} (h : OkS P K b u m b' u' m' S H) (hS : S.length ≤ 60) (hH : H.length ≤ 60) : streamOk P K b u m b' u' m' S H = true := by
  unfold streamOk termsB
  simp only [Bool.and_eq_true, decide_eq_true_eq]
  exact ⟨h.pool, h.know, h.out, h.inn, ⟨hS, fun j x hx => h.sent x (List.mem_of_getElem? hx)⟩, hH, fun j x hx => h.got x (List.mem_of_getElem? hx)⟩
open Classical in
theorem streamOk_ok {P : List Nd} {K : List Int} {b u m b' u' m' : Int} {S H : List Int} (h : streamOk P K b u m b' u' m' S H = true) : OkS P K b u m b' u' m' S H ∧ S.length ≤ 60 ∧ H.length ≤ 60 := by
  unfold streamOk termsB at h
  simp only [Bool.and_eq_true, decide_eq_true_eq] at h
  obtain ⟨h1, h2, h3, h4, ⟨h5, h6⟩, h7, h8⟩ := h
  refine ⟨⟨h1, h2, h3, h4, fun x hx => ?_, fun x hx => ?_⟩, h5, h7⟩
  · obtain ⟨i, hi, rfl⟩ := List.getElem_of_mem hx; exact h6 i _ (List.getElem?_eq_getElem hi)
  · obtain ⟨i, hi, rfl⟩ := List.getElem_of_mem hx; exact h8 i _ (List.getElem?_eq_getElem hi)
section
variable {k : Nat} (hk : K0 ≤ k) {p : List Nd} {ks : List Int} {a t n : Int} {d : Bool} {a' t' n' : Int} {d' : Bool} {s h : List Int} (hok : streamOk p ks a t n a' t' n' s h = true)
include hk hok
theorem sok : poolOk p = true ∧ knowOk p ks = true ∧ linkB p a t n = true ∧ linkB p a' t' n' = true ∧ s.length ≤ 60 ∧ h.length ≤ 60 := by
  unfold streamOk termsB at hok
  simp only [Bool.and_eq_true, decide_eq_true_eq] at hok
  exact ⟨hok.1, hok.2.1, hok.2.2.1, hok.2.2.2.1, hok.2.2.2.2.1.1, hok.2.2.2.2.2.1⟩
theorem oks : OkS p ks a t n a' t' n' s h := (streamOk_ok hok).1
def Alike (r8 : SD) (r5 : ID) : Prop :=
  (r8.2.2.2.2.2.2.2.2.2.2.2.2 = false ∧ r5.1 = false ∧ r8.1.length ≤ 3000000 ∧ r8.2.2.2.2.2.2.2.2.2.2.1.length ≤ 3000000 ∧ r8.2.2.2.2.2.2.2.2.2.2.2.1.length ≤ 3000000) ∨
  (∃ (P : List Nd) (K : List Int) (b u m : Int) (e : Bool) (b' u' m' : Int) (e' : Bool) (S H : List Int), r8 = (P, K, b, u, m, e, b', u', m', e', S, H, true) ∧ r5 = (true, b, u, m, e, b', u', m', e', P, K, S, H) ∧ OkS P K b u m b' u' m' S H)
theorem inB_range {x : Int} (h : inB x 0 20 = true) : 0 ≤ x ∧ x ≤ 20 := by unfold inB at h; exact of_decide_eq_true h
theorem link_range {x u m : Int} (h : linkB p x u m = true) : (0 ≤ u ∧ u ≤ 20) ∧ (0 ≤ m ∧ m ≤ 20) := by
  unfold linkB at h
  simp only [Bool.and_eq_true] at h
  unfold inB at h
  exact ⟨of_decide_eq_true h.2.1, of_decide_eq_true h.2.2⟩
theorem do_send (x : Int) (txt : ByteArray) (ht : emptyB txt = true) : ∃ r8 r5, F_spec_l19Do_10db k p ks a t n d a' t' n' d' 1 x txt s h = some r8 ∧ F_impl_Stream_do_e590 k 1 x txt a t n d a' t' n' d' p ks s h = some r5 ∧ Alike r8 r5 := by
  obtain ⟨h1, h2, h3, h4, h5, h6⟩ := sok hk hok
  have g : Good p := ⟨poolOk_len h1, poolOk_right h1⟩
  have hn := (link_range hk hok h3).2
  have hkl := knowOk_len h2
  unfold F_spec_l19Do_10db F_impl_Stream_do_e590 F_impl_Stream_do_e590_J2 F_impl_Stream_send_65c4
  rw [show txt.toList == (⟨#[]⟩ : ByteArray).toList from ht]
  rw [send_eq hk p a t n x d g hn, isend_eq hk p a t n x d h1 h3 hn]
  simp only [beq_self_eq_true, cond_true, Option.bind_some]
  rw [hear_eq hk _ _ _ _ _ _ _ _ _ _ _ _ _ (knowOk_srt h2) (by omega)]
  simp only [Option.bind_some]
  rw [if_pos (by simp; omega), if_pos (by simp; omega)]
  obtain ⟨q, e1, e2, e3⟩ := shear_eq hk (sendP p a n d x).2.2 (sendP p a n d x).1 a t (sendP p a n d x).2.1 d a' t' n' d' ks (s ++ [x]) h hkl
  rw [e1]
  simp only [Option.bind_some]
  have hpl : (sendP p a n d x).1.length ≤ 500 := by
    unfold sendP; split
    · exact (wordP_good g a n x).1.1
    · exact g.1
  cases hb : (hearP (sendP p a n d x).2.2 ks).1
  · rw [hb] at e2
    simp only [Bool.not_false, cond_true]
    exact ⟨_, _, rfl, rfl, .inl ⟨e2, rfl, by show (sendP p a n d x).1.length ≤ _; omega, by show (s ++ [x]).length ≤ _; simp; omega, by show h.length ≤ _; omega⟩⟩
  · rw [hb] at e2
    simp only [Bool.not_true, cond_false]
    refine ⟨_, _, rfl, rfl, .inr ⟨(sendP p a n d x).1, q.1, a, t, (sendP p a n d x).2.1, d, a', t', n', d', s ++ [x], h, by rw [e2], by rw [e3 e2], ?_⟩⟩
    have hh := hear_ok (p := p) (P := (sendP p a n d x).1) hb
    obtain ⟨q1, q2, q3, q4, q5, q6⟩ := sendP_post g a n x d hh.1
    have o := oks hk hok
    rw [e3 e2]
    refine ⟨q1.ok, hh.2 q3 h2 q2, linkB_mk (hasB_mono (linkB_has h3) q2) (link_range hk hok h3).1 (by rw [q5]; omega), linkB_mono h4 q2, fun y hy => ?_, fun y hy => hasB_mono (o.got y hy) q2⟩
    rcases List.mem_append.1 hy with hy | hy
    · exact hasB_mono (o.sent y hy) q2
    · rw [List.mem_singleton.1 hy]; exact hasB_mono q4 q2
theorem do_close (txt : ByteArray) (ht : emptyB txt = true) : ∃ r8 r5, F_spec_l19Do_10db k p ks a t n d a' t' n' d' 3 0 txt s h = some r8 ∧ F_impl_Stream_do_e590 k 3 0 txt a t n d a' t' n' d' p ks s h = some r5 ∧ Alike r8 r5 := by
  obtain ⟨h1, h2, h3, h4, h5, h6⟩ := sok hk hok
  have g : Good p := ⟨poolOk_len h1, poolOk_right h1⟩
  have hn := (link_range hk hok h3).2
  have hkl := knowOk_len h2
  unfold F_spec_l19Do_10db F_impl_Stream_do_e590 F_impl_Stream_do_e590_J2 F_impl_Stream_do_e590_J6 F_impl_Stream_do_e590_J10 F_impl_Stream_end_4594
  rw [show txt.toList == (⟨#[]⟩ : ByteArray).toList from ht]
  rw [close_eq hk p a t n d g hn, iclose_eq hk p a t n d h1 h3 hn]
  simp only [beq_self_eq_true, bne_self_eq_false, beqI, cond_true, cond_false, Option.bind_some, Bool.not_true]
  rw [hear_eq hk _ _ _ _ _ _ _ _ _ _ _ _ _ (knowOk_srt h2) (by omega)]
  obtain ⟨q, e1, e2, e3⟩ := shear_eq hk (closeP p a n d).2.2 (closeP p a n d).1 a t n (closeP p a n d).2.1 a' t' n' d' ks s h hkl
  rw [e1]
  simp only [Option.bind_some]
  have hpl : (closeP p a n d).1.length ≤ 500 := by
    unfold closeP; split
    · exact (wordP_good (addP_good g 1 8 0).1 a n _).1.1
    · exact g.1
  cases hb : (hearP (closeP p a n d).2.2 ks).1
  · rw [hb] at e2
    exact ⟨_, _, rfl, rfl, .inl ⟨e2, by simp, by show (closeP p a n d).1.length ≤ _; omega, by show s.length ≤ _; omega, by show h.length ≤ _; omega⟩⟩
  · rw [hb] at e2
    refine ⟨_, _, rfl, rfl, .inr ⟨(closeP p a n d).1, q.1, a, t, n, (closeP p a n d).2.1, a', t', n', d', s, h, by rw [e2], by rw [e3 e2], ?_⟩⟩
    have hh := hear_ok (p := p) (P := (closeP p a n d).1) hb
    obtain ⟨q1, q2, q3⟩ := closeP_post g a n d hh.1
    have o := oks hk hok
    rw [e3 e2]
    exact ⟨q1.ok, hh.2 q3 h2 q2, linkB_mono h3 q2, linkB_mono h4 q2, fun y hy => hasB_mono (o.sent y hy) q2, fun y hy => hasB_mono (o.got y hy) q2⟩
theorem turnP_len {P : List Nd} (g : Good P) (b u m : Int) (e : Bool) : (turnP P b u m e).1.length ≤ 500 := by
  unfold turnP; split
  · exact (addP_good (addP_good g 1 7 0).1 6 b _).1.1
  · exact g.1
theorem do_turn (txt : ByteArray) (ht : emptyB txt = true) : ∃ r8 r5, F_spec_l19Do_10db k p ks a t n d a' t' n' d' 2 0 txt s h = some r8 ∧ F_impl_Stream_do_e590 k 2 0 txt a t n d a' t' n' d' p ks s h = some r5 ∧ Alike r8 r5 := by
  obtain ⟨h1, h2, h3, h4, h5, h6⟩ := sok hk hok
  have g : Good p := ⟨poolOk_len h1, poolOk_right h1⟩
  have hn := (link_range hk hok h3).1
  have hkl := knowOk_len h2
  have hpl := turnP_len hk hok g a t n d
  unfold F_spec_l19Do_10db F_impl_Stream_do_e590 F_impl_Stream_do_e590_J2 F_impl_Stream_do_e590_J6 F_impl_Stream_do_e590_J10 F_impl_Stream_turn_9350
  rw [show txt.toList == (⟨#[]⟩ : ByteArray).toList from ht]
  rw [turn_eq hk p a t n d g hn, iturn_eq hk p a t n d h1 h3 hn]
  simp only [beq_self_eq_true, bne_self_eq_false, beqI, cond_true, cond_false, Option.bind_some, Bool.not_true]
  cases hb : (turnP p a t n d).2.2.2.2.2
  · exact ⟨_, _, rfl, rfl, .inl ⟨by simp, by simp, by show (turnP p a t n d).1.length ≤ _; omega, by show s.length ≤ _; omega, by show h.length ≤ _; omega⟩⟩
  · refine ⟨_, _, rfl, rfl, .inr ⟨(turnP p a t n d).1, ks, (turnP p a t n d).2.1, (turnP p a t n d).2.2.1, (turnP p a t n d).2.2.2.1, (turnP p a t n d).2.2.2.2.1, a', t', n', d', s, h, by simp [hb], by simp, ?_⟩⟩
    obtain ⟨q1, q2, q3⟩ := turnP_post g a t n d hn hb
    have o := oks hk hok
    exact ⟨q1.ok, knowOk_mk hkl (knowOk_srt h2) (fun y hy => hasB_mono (knowOk_has h2 hy) q2), q3, linkB_mono h4 q2, fun y hy => hasB_mono (o.sent y hy) q2, fun y hy => hasB_mono (o.got y hy) q2⟩
theorem do_turn' (txt : ByteArray) (ht : emptyB txt = true) : ∃ r8 r5, F_spec_l19Do_10db k p ks a t n d a' t' n' d' 5 0 txt s h = some r8 ∧ F_impl_Stream_do_e590 k 5 0 txt a t n d a' t' n' d' p ks s h = some r5 ∧ Alike r8 r5 := by
  obtain ⟨h1, h2, h3, h4, h5, h6⟩ := sok hk hok
  have g : Good p := ⟨poolOk_len h1, poolOk_right h1⟩
  have hn := (link_range hk hok h4).1
  have hkl := knowOk_len h2
  have hpl := turnP_len hk hok g a' t' n' d'
  unfold F_spec_l19Do_10db F_impl_Stream_do_e590 F_impl_Stream_do_e590_J2 F_impl_Stream_do_e590_J6 F_impl_Stream_do_e590_J10 F_impl_Stream_turn_82d8
  rw [show txt.toList == (⟨#[]⟩ : ByteArray).toList from ht]
  rw [turn_eq hk p a' t' n' d' g hn, iturn_eq hk p a' t' n' d' h1 h4 hn]
  simp only [beq_self_eq_true, bne_self_eq_false, beqI, cond_true, cond_false, Option.bind_some, Bool.not_true]
  cases hb : (turnP p a' t' n' d').2.2.2.2.2
  · exact ⟨_, _, rfl, rfl, .inl ⟨by simp, by simp, by show (turnP p a' t' n' d').1.length ≤ _; omega, by show s.length ≤ _; omega, by show h.length ≤ _; omega⟩⟩
  · refine ⟨_, _, rfl, rfl, .inr ⟨(turnP p a' t' n' d').1, ks, a, t, n, d, (turnP p a' t' n' d').2.1, (turnP p a' t' n' d').2.2.1, (turnP p a' t' n' d').2.2.2.1, (turnP p a' t' n' d').2.2.2.2.1, s, h, by simp [hb], by simp, ?_⟩⟩
    obtain ⟨q1, q2, q3⟩ := turnP_post g a' t' n' d' hn hb
    have o := oks hk hok
    exact ⟨q1.ok, knowOk_mk hkl (knowOk_srt h2) (fun y hy => hasB_mono (knowOk_has h2 hy) q2), linkB_mono h3 q2, q3, fun y hy => hasB_mono (o.sent y hy) q2, fun y hy => hasB_mono (o.got y hy) q2⟩
theorem do_take (txt : ByteArray) (htx : txt.size ≤ 3000000) : ∃ r8 r5, F_spec_l19Do_10db k p ks a t n d a' t' n' d' 4 0 txt s h = some r8 ∧ F_impl_Stream_do_e590 k 4 0 txt a t n d a' t' n' d' p ks s h = some r5 ∧ Alike r8 r5 := by
  obtain ⟨h1, h2, h3, h4, h5, h6⟩ := sok hk hok
  have g : Good p := ⟨poolOk_len h1, poolOk_right h1⟩
  have hpl := g.1
  have hkl := knowOk_len h2
  unfold F_spec_l19Do_10db F_impl_Stream_do_e590 F_impl_Stream_do_e590_J2 F_impl_Stream_do_e590_J6 F_impl_Stream_take_b76b F_impl_Stream_take_b76b_J10 F_spec_l19Do_10db_J15
  simp only [beq_self_eq_true, bne_self_eq_false, beqI, cond_true, cond_false, Option.bind_some, Bool.not_true]
  obtain ⟨R, R', e1, e2, hR⟩ := recipe_eq hk txt htx p ks h1 h2
  rw [e1, e2]
  simp only [Option.bind_some]
  rw [show decide ((4 : Int) = 1) = false from rfl, show decide ((4 : Int) = 3) = false from rfl, show decide ((4 : Int) = 2) = false from rfl, show decide ((4 : Int) = 5) = false from rfl]
  simp only [cond_true, cond_false]
  rcases hR with ⟨rfl, hz, hgR, hlR, hvR⟩ | ⟨hE, hE'⟩
  rotate_left
  · rw [dne0 hE, dne0 hE']
    simp only [cond_true, Option.bind_some]
    exact ⟨_, _, rfl, rfl, .inl ⟨rfl, rfl, by show p.length ≤ _; omega, by show s.length ≤ _; omega, by show h.length ≤ _; omega⟩⟩
  have hl := hgR.1
  have o := oks hk hok
  rw [hz]
  simp only [bne_self_eq_false, cond_false]
  obtain ⟨T, e3, e4, hT⟩ := takeL_eq hk R.2.2.2 a' t' n' R.1 d' (by omega)
  have base : T.2.2.2 = 0 → ∀ H' : List Int, (∀ y ∈ H', hasB R.2.2.2 y = true) → OkS R.2.2.2 ks a t n a' t' T.1 s H' := fun hz H' hH =>
    ⟨hgR.ok, knowOk_mk hkl (knowOk_srt h2) (fun y hy => hasB_mono (knowOk_has h2 hy) hlR), linkB_mono h3 hlR, (hT hz).1, fun y hy => hasB_mono (o.sent y hy) hlR, hH⟩
  rw [e3, e4]
  simp only [Option.bind_some]
  by_cases hv : T.2.2.1 ≥ 0
  · rw [decide_eq_true hv]
    have hlen : h.length + [T.2.2.1].length ≤ 1099511627776 := by simp; omega
    simp only [cond_true, if_pos hlen]
    by_cases he : T.2.2.2 = 0
    · rw [he]
      simp only [bne_self_eq_false, cond_false, Option.bind_some, decide_true]
      refine ⟨_, _, rfl, rfl, .inr ⟨R.2.2.2, ks, a, t, n, d, a', t', T.1, T.2.1, s, h ++ [T.2.2.1], rfl, rfl, base he _ fun y hy => ?_⟩⟩
      rcases List.mem_append.1 hy with hy | hy
      · exact hasB_mono (o.got y hy) hlR
      · rw [List.mem_singleton.1 hy]; exact (hT he).2 hv
    · rw [dne0 he, decide_eq_false he]
      simp only [cond_true, Option.bind_some]
      exact ⟨_, _, rfl, rfl, .inl ⟨rfl, rfl, by show R.2.2.2.length ≤ _; omega, by show s.length ≤ _; omega, by show (h ++ [_]).length ≤ _; simp; omega⟩⟩
  · rw [decide_eq_false hv]
    simp only [cond_false]
    by_cases he : T.2.2.2 = 0
    · rw [he]
      simp only [bne_self_eq_false, cond_false, Option.bind_some, decide_true]
      exact ⟨_, _, rfl, rfl, .inr ⟨R.2.2.2, ks, a, t, n, d, a', t', T.1, T.2.1, s, h, rfl, rfl, base he _ fun y hy => hasB_mono (o.got y hy) hlR⟩⟩
    · rw [dne0 he, decide_eq_false he]
      simp only [cond_true, Option.bind_some]
      exact ⟨_, _, rfl, rfl, .inl ⟨rfl, rfl, by show R.2.2.2.length ≤ _; omega, by show s.length ≤ _; omega, by show h.length ≤ _; omega⟩⟩
theorem do_eq (c x : Int) (txt : ByteArray) (htx : txt.size ≤ 3000000) (ha : actB c x txt = true) : ∃ r8 r5, F_spec_l19Do_10db k p ks a t n d a' t' n' d' c x txt s h = some r8 ∧ F_impl_Stream_do_e590 k c x txt a t n d a' t' n' d' p ks s h = some r5 ∧ Alike r8 r5 := by
  unfold actB at ha
  split at ha
  · rename_i e; subst e; exact do_send hk hok x txt ha
  split at ha
  · rename_i e; subst e; have := of_decide_eq_true ha; subst this; exact do_take hk hok txt htx
  split at ha
  · rename_i e
    rw [Bool.and_eq_true] at ha
    have := of_decide_eq_true ha.1; subst this
    rcases e with rfl | rfl | rfl
    · exact do_turn hk hok txt ha.2
    · exact do_close hk hok txt ha.2
    · exact do_turn' hk hok txt ha.2
  · cases ha
theorem do_no (c x : Int) (txt : ByteArray) (ha : actB c x txt = false) : ∃ r5, F_impl_Stream_do_e590 k c x txt a t n d a' t' n' d' p ks s h = some r5 ∧ r5.1 = false := by
  have J10 : F_impl_Stream_do_e590_J10 k c a t n d a' t' n' d' p ks s h true = some (false, a, t, n, d, a', t', n', d', p, ks, s, h) := rfl
  have J6 : (x ≠ 0 ∨ emptyB txt = false) → ∃ r5, F_impl_Stream_do_e590_J6 k c x txt a t n d a' t' n' d' p ks s h false = some r5 ∧ r5.1 = false := fun hx => by
    unfold F_impl_Stream_do_e590_J6
    rw [cond_false]
    by_cases h0 : x = 0
    · rcases hx with hx | hx
      · exact absurd h0 hx
      · rw [h0, bne_self_eq_false, cond_false, show (txt.toList == (⟨#[]⟩ : ByteArray).toList) = false from hx, Bool.not_false, J10]; exact ⟨_, rfl, rfl⟩
    · rw [dne0 h0, cond_true, J10]; exact ⟨_, rfl, rfl⟩
  unfold actB at ha
  unfold F_impl_Stream_do_e590 F_impl_Stream_do_e590_J2
  split at ha
  · rename_i e; subst e
    rw [show ((1 : Int) == 1) = true from rfl, show (txt.toList == (⟨#[]⟩ : ByteArray).toList) = false from ha, show ((1 : Int) == 4) = false from rfl]
    exact J6 (.inr ha)
  rename_i e1
  split at ha
  · rename_i e; subst e
    have hx := of_decide_eq_false ha
    rw [show ((4 : Int) == 1) = false from rfl, show ((4 : Int) == 4) = true from rfl, deq0 hx]
    exact J6 (.inl hx)
  rename_i e4
  simp only [beqI, decide_eq_false e1, decide_eq_false e4, cond_false]
  by_cases hx : x ≠ 0 ∨ emptyB txt = false
  · exact J6 hx
  · have h0 : x = 0 := Classical.byContradiction fun hh => hx (.inl hh)
    have ht : emptyB txt = true := by cases hh : emptyB txt; · exact absurd (.inr hh) hx
                                      · rfl
    split at ha
    · rw [h0, ht] at ha; cases ha
    rename_i e5
    unfold F_impl_Stream_do_e590_J6 F_impl_Stream_do_e590_J10
    rw [h0, bne_self_eq_false, show txt.toList == (⟨#[]⟩ : ByteArray).toList from ht]
    simp only [cond_false, Bool.not_true, beqI, decide_eq_false (show ¬ c = 2 from fun hh => e5 (.inl hh)), decide_eq_false (show ¬ c = 3 from fun hh => e5 (.inr (.inl hh))), decide_eq_false (show ¬ c = 5 from fun hh => e5 (.inr (.inr hh)))]
    exact ⟨_, rfl, rfl⟩
end
theorem streamDo_eq {k : Nat} (hk : K0 ≤ k) (p : List Nd) (ks : List Int) (a t n : Int) (d : Bool) (a' t' n' : Int) (d' : Bool) (s h : List Int) (c x : Int) (txt : ByteArray)
    (hp : p.length ≤ 1048576) (hks : ks.length ≤ 1048576) (hs : s.length ≤ 1048576) (hh : h.length ≤ 1048576) (htx : txt.size ≤ 1048576) :
    ∃ (b u m : Int) (e : Bool) (b' u' m' : Int) (e' : Bool) (ok : Bool) (P : List Nd) (K S H : List Int), F_spec_StreamDo k p ks a t n d a' t' n' d' s h c x txt = some (b, u, m, e, b', u', m', e', ok, P, K, S, H) ∧ F_impl_StreamDo k p ks a t n d a' t' n' d' s h c x txt = some (b, u, m, e, b', u', m', e', ok, P, K, S, H) ∧
      P.length ≤ 1048576 ∧ K.length ≤ 1048576 ∧ S.length ≤ 1048576 ∧ H.length ≤ 1048576 ∧
      (streamOk p ks a t n a' t' n' s h = true → streamOk P K b u m b' u' m' S H = true ∧ (ok = false → (b, u, m, e, b', u', m', e', P, K, S, H) = (a, t, n, d, a', t', n', d', p, ks, s, h))) := by
  unfold F_spec_StreamDo F_impl_StreamDo
  rw [streamOk_eq hk p ks a t n d a' t' n' d' s h (by omega) (by omega) (by omega) (by omega), iStreamOk_eq hk p ks a t n d a' t' n' d' s h (by omega) (by omega) (by omega) (by omega)]
  simp only [Option.bind_some, act_eq]
  rw [copyS_eq k p ks a t n d a' t' n' d' s h (by omega) (by omega) (by omega) (by omega), copySs_eq k p ks a t n d a' t' n' d' s h (by omega) (by omega) (by omega) (by omega)]
  cases hok : streamOk p ks a t n a' t' n' s h
  · exact ⟨_, _, _, _, _, _, _, _, _, _, _, _, _, rfl, rfl, by decide, by decide, by decide, by decide, fun h => by cases h⟩
  simp only [Bool.not_true, cond_false, Option.bind_some, List.nil_append]
  unfold F_spec_StreamDo_J11 F_impl_StreamDo_J4 F_impl_Stream_fits_4594
  rw [copyS_eq k p ks a t n d a' t' n' d' s h (by omega) (by omega) (by omega) (by omega), copySs_eq k p ks a t n d a' t' n' d' s h (by omega) (by omega) (by omega) (by omega)]
  simp only [Option.bind_some, List.nil_append]
  cases ha : actB c x txt
  · obtain ⟨r5, e1, e2⟩ := do_no hk hok (d := d) (d' := d') c x txt ha
    rw [e1]
    simp only [Bool.not_false, cond_true, Option.bind_some, e2]
    exact ⟨_, _, _, _, _, _, _, _, _, _, _, _, _, rfl, rfl, hp, hks, hs, hh, fun _ => ⟨hok, fun _ => rfl⟩⟩
  obtain ⟨r8, r5, e1, e2, hA⟩ := do_eq hk hok (d := d) (d' := d') c x txt (by omega) ha
  rw [e1, e2]
  simp only [Bool.not_true, cond_false, Option.bind_some]
  rcases hA with ⟨h1, h2, _⟩ | ⟨P, K, b, u, m, e, b', u', m', e', S, H, rfl, rfl, hO⟩
  · rw [h1, h2]
    simp only [Bool.not_false, cond_true]
    exact ⟨_, _, _, _, _, _, _, _, _, _, _, _, _, rfl, rfl, hp, hks, hs, hh, fun _ => ⟨hok, fun _ => rfl⟩⟩
  have hK := knowOk_len hO.know
  have hP := poolOk_len hO.pool
  simp only [Bool.not_true, cond_false]
  by_cases hp4 : P.length ≤ 400
  rotate_left
  · rw [decide_eq_true (show (P.length : Int) > 400 by omega), decide_eq_false (show ¬ (P.length : Int) ≤ 400 by omega)]
    simp only [cond_true, cond_false, Bool.not_false, Option.bind_some]
    exact ⟨_, _, _, _, _, _, _, _, _, _, _, _, _, rfl, rfl, hp, hks, hs, hh, fun _ => ⟨hok, fun _ => rfl⟩⟩
  rw [decide_eq_false (show ¬ (P.length : Int) > 400 by omega), decide_eq_true (show (P.length : Int) ≤ 400 by omega)]
  by_cases hS : S.length ≤ 60
  rotate_left
  · rw [decide_eq_true (show (S.length : Int) > 60 by omega), decide_eq_false (show ¬ (S.length : Int) ≤ 60 by omega)]
    simp only [cond_true, cond_false, Bool.not_false, Option.bind_some]
    exact ⟨_, _, _, _, _, _, _, _, _, _, _, _, _, rfl, rfl, hp, hks, hs, hh, fun _ => ⟨hok, fun _ => rfl⟩⟩
  rw [decide_eq_false (show ¬ (S.length : Int) > 60 by omega), decide_eq_true (show (S.length : Int) ≤ 60 by omega)]
  by_cases hH : H.length ≤ 60
  rotate_left
  · rw [decide_eq_true (show (H.length : Int) > 60 by omega), decide_eq_false (show ¬ (H.length : Int) ≤ 60 by omega)]
    simp only [cond_true, cond_false, Bool.not_false, Option.bind_some]
    exact ⟨_, _, _, _, _, _, _, _, _, _, _, _, _, rfl, rfl, hp, hks, hs, hh, fun _ => ⟨hok, fun _ => rfl⟩⟩
  rw [decide_eq_false (show ¬ (H.length : Int) > 60 by omega), decide_eq_true (show (H.length : Int) ≤ 60 by omega)]
  rw [copySs_eq k P K b u m e b' u' m' e' S H (by omega) (by omega) (by omega) (by omega)]
  simp only [cond_true, cond_false, Bool.not_true, Option.bind_some]
  exact ⟨_, _, _, _, _, _, _, _, _, _, _, _, _, rfl, rfl, by omega, by omega, by omega, by omega, fun _ => ⟨hO.stream hS hH, fun h => by cases h⟩⟩
end Go.Proofs.YtmbbapeiikifgaaGreatDoor
