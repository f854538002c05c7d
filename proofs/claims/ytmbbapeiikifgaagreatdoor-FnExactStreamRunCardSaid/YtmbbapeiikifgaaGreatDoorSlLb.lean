/- Functions of Go's library: what they compute; their contracts told of symbolic states. -/
import Derived.Test.YtmbbapeiikifgaaGreatDoorSlAr
import Derived.Lib.ItoaNum
import Derived.Lib.AtoiAll
import Derived.Lib.LaidTab
import Derived.Lib.ConvBytes
import Derived.Sort.Grow
import Derived.Below
import Derived.Deep.Draws
import Derived.Lib.AtoiErrMem
namespace Go.Proofs.YtmbbapeiikifgaaGreatDoor
open Go
def F_strconv_Itoa (_ : Nat) (a1 : Int) : Option ByteArray :=
  if -9223372036854775808 ≤ a1 ∧ a1 ≤ 9223372036854775807 then some ⟨(Lib.itoa a1).toArray⟩ else none
def F_strconv_Atoi (_ : Nat) (a1 : ByteArray) : Option (Int × Bool) :=
  if a1.size ≤ 281474976710656 then
    match Lib.atoiAll a1.data.toList with
    | .ok v => some (v, false)
    | .range => some (Lib.atoiSat a1.data.toList, true)
    | _ => some (0, true)
  else none
section
variable {P : Program} {f : FuncId}
theorem Spec.calm {args : List AV} {r : AV} (h : ∀ w M Z vs, HRel [] M Z w → AsRel M Z w args vs → Calls P f vs.toArray w (fun e w' => ∃ v, e = .returned v ∧ ARel M Z w' r v ∧ Keep w w' (fun _ _ => False))) : Spec P f args [] r [] := by
  intro w M Z vs hH hA
  refine (h w M Z vs hH hA).mono ?_
  rintro e w' ⟨v, rfl, hv, hk⟩
  refine ⟨v, M, Z, rfl, ⟨hv, ⟨hH.ml, fun i o p hi => by simp at hi, hH.dj, hH.dz, fun i p k j hp h => Nat.lt_of_lt_of_le (hH.lt i p k j hp h) hk.size, fun k j h => Nat.lt_of_lt_of_le (hH.zl k j h) hk.size, hH.gl.keep hk (fun _ _ h => h.elim) fun _ _ h => h⟩, fun i p hp => ⟨p, hp, rfl, rfl, rfl⟩, hk.mono fun _ _ h => h.elim, fun _ _ h => h, fun _ _ h => .inl h, fun i p k j hp h => .inl ⟨i, p, hp, h⟩⟩⟩
theorem Keep.below {w w' : World} (h : RowKit.Below w.heap.size w w') : Keep w w' (fun _ _ => False) := ⟨h.os, h.tape, h.output, h.size, fun k hk => .inl (h.block k hk)⟩
theorem tabIs_of {w : World} {Z : CS} {b : Nat} {name : String} {k : IntKind} {zs : List Int} (hG : GRel Z w) (hb : (b, .tab k zs) ∈ glbs) (hn : P.globalNamed name = some b) : Lib.TabIs P w name k zs := by
  obtain ⟨_, e, fr, h⟩ := hG b _ hb
  simp only [Lib.TabIs, World.var?, hn, Option.bind_some, h]
theorem spec_itoa {b : Nat} (h : ∀ (n : Int) (_ : -9223372036854775808 ≤ n) (_ : n ≤ 9223372036854775807) (w : World) (_ : Lib.TabIs P w "internal/strconv.uint64pow10" .u64 Lib.pow10Tab),
      Calls P f #[.int .i64 n] w fun e w' => e = .returned (.string ⟨(Lib.itoa n).toArray⟩) ∧ ∃ k os, w' = Sort.grow (w.drewN k) os)
    (hb : (b, .tab .u64 Lib.pow10Tab) ∈ glbs) (hn : P.globalNamed "internal/strconv.uint64pow10" = some b) (k : Nat) (a1 : Int) (r : ByteArray) (hF : F_strconv_Itoa k a1 = some r) : Spec P f [iI a1] [] (sS r) [] := by
  refine .calm fun w M Z vs hH hA => ?_
  obtain ⟨v, r', rfl, hv, hr⟩ := hA
  simp only [AsRel] at hr; subst hr
  have hv' : v = .int .i64 a1 := hv
  subst hv'
  unfold F_strconv_Itoa at hF
  split at hF
  · rename_i hc
    cases hF
    refine (h a1 hc.1 hc.2 w (tabIs_of hH.gl hb hn)).mono ?_
    rintro e w' ⟨rfl, q, os, rfl⟩
    refine ⟨_, rfl, rfl, ⟨rfl, rfl, rfl, ?_, fun k hk => .inl ?_⟩⟩
    · simp [Sort.grow]
    · have : k < (w.drewN q).heap.size := hk
      simp only [Sort.grow]
      rw [Array.getElem?_append_left this]
      rfl
  · cases hF
theorem ifc_of {w : World} {Z : CS} {b : Nat} (hG : GRel Z w) (hb : (b, .ifc) ∈ glbs) : ∃ t x, w.cell? ⟨b, 0, none⟩ = some (.iface t x) := (hG b _ hb).2
theorem spec_atoi {b1 b2 : Nat} {t t2 : TypeId}
    (h1 : ∀ (s : ByteArray) (_ : s.size ≤ 9223372036854775806) (v : Int) (_ : Lib.atoiAll s.data.toList = .ok v) (w : World), Calls P f #[.string s] w fun e w' => e = .returned (.tuple #[.int .i64 v, .nilIface]) ∧ (w' = w ∨ ∃ t, w' = Lib.bytesWorld w t2 t))
    (h2 : ∀ (s : ByteArray) (_ : s.size ≤ 281474976710656) (_ : Lib.atoiAll s.data.toList = Lib.atoiAll []) (ev : Value) (w : World) (_ : w.cell? ⟨b1, 0, none⟩ = some ev) (_ : ev = .nilIface ∨ ∃ te pe, ev = .iface te pe),
      Calls P f #[.string s] w fun e w' => ∃ N, e = .returned (.tuple #[.int .i64 (0), .iface t (.pointer (some ⟨N, 0, none⟩))]) ∧ RowKit.Below w.heap.size w w')
    (h3 : ∀ (s : ByteArray) (_ : s.size ≤ 281474976710656) (_ : Lib.atoiAll s.data.toList = .range) (ev : Value) (w : World) (_ : w.cell? ⟨b2, 0, none⟩ = some ev) (_ : ev = .nilIface ∨ ∃ te pe, ev = .iface te pe),
      Calls P f #[.string s] w fun e w' => ∃ N, e = .returned (.tuple #[.int .i64 (Lib.atoiSat s.data.toList), .iface t (.pointer (some ⟨N, 0, none⟩))]) ∧ RowKit.Below w.heap.size w w')
    (hb1 : (b1, .ifc) ∈ glbs) (hb2 : (b2, .ifc) ∈ glbs) (k : Nat) (a1 : ByteArray) (r : Int × Bool) (hF : F_strconv_Atoi k a1 = some r) : Spec P f [sS a1] [] (.tup [.c (.int .i64 r.1), .c (.er r.2)]) [] := by
  refine .calm fun w M Z vs hH hA => ?_
  obtain ⟨v, r', rfl, hv, hr⟩ := hA
  simp only [AsRel] at hr; subst hr
  have hv' : v = .string a1 := hv
  subst hv'
  unfold F_strconv_Atoi at hF
  split at hF
  · rename_i hc
    obtain ⟨te, pe, hE1⟩ := ifc_of hH.gl hb1
    obtain ⟨te', pe', hE2⟩ := ifc_of hH.gl hb2
    split at hF
    · rename_i v hv
      cases hF
      refine (h1 a1 (by omega) v hv w).mono ?_
      rintro e w' ⟨rfl, hw⟩
      refine ⟨_, rfl, ⟨_, rfl, _, _, rfl, rfl, _, _, rfl, .inr ⟨rfl, rfl⟩, rfl⟩, ?_⟩
      rcases hw with rfl | ⟨t, rfl⟩
      · exact Keep.refl _ _
      · exact Keep.below (Lib.bytesWorld_below _ _ _)
    · rename_i hs
      cases hF
      refine (h3 a1 hc hs _ w hE2 (.inr ⟨_, _, rfl⟩)).mono ?_
      rintro e w' ⟨N, rfl, hb⟩
      exact ⟨_, rfl, ⟨_, rfl, _, _, rfl, rfl, _, _, rfl, .inl ⟨rfl, _, _, rfl⟩, rfl⟩, Keep.below hb⟩
    · rename_i n1 n2
      have hs : Lib.atoiAll a1.data.toList = Lib.atoiAll [] := by
        cases hq : Lib.atoiAll a1.data.toList with
        | ok v => exact absurd hq (n1 v)
        | range => exact absurd hq n2
        | _ => rfl
      cases hF
      refine (h2 a1 hc hs _ w hE1 (.inr ⟨_, _, rfl⟩)).mono ?_
      rintro e w' ⟨N, rfl, hb⟩
      exact ⟨_, rfl, ⟨_, rfl, _, _, rfl, rfl, _, _, rfl, .inl ⟨rfl, _, _, rfl⟩, rfl⟩, Keep.below hb⟩
  · cases hF
end
end Go.Proofs.YtmbbapeiikifgaaGreatDoor
