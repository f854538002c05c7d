/- What the functions compute. -/
import Derived.Test.YtmbbapeiikifgaaGreatDoorSlLi
set_option maxRecDepth 100000
set_option linter.all false
namespace Go.Proofs.YtmbbapeiikifgaaGreatDoor
open Go
abbrev tyI : Ty := (.int .i64)
abbrev tyII : Ty := (.pair tyI tyI)
abbrev tyIII : Ty := (.pair tyI tyII)
abbrev tyS : Ty := .str
abbrev tyIS : Ty := (.pair tyI tyS)
abbrev tyIIS : Ty := (.pair tyI tyIS)
abbrev tyU : Ty := (.int .u8)
def F_laws_szNodeS (k : Nat) (a1 : (List (Int × (Int × Int)))) (a2 : Int) : Option (Int) :=
  cond (decide ((w64 (a2 - (a1.length : Int))) < 0)) (some ((-1))) (some (w64 (a2 - (a1.length : Int))))
def F_laws_szPool (k : Nat) (a1 : (List (Int × (Int × Int)))) (a2 : Int) : Option (Int) :=
  (F_laws_szNodeS k a1 a2).bind fun r1 => cond (decide (r1 < 0)) (some ((-1))) (some (r1))
def F_laws_szIntS (k : Nat) (a1 : (List Int)) (a2 : Int) : Option (Int) :=
  cond (decide ((w64 (a2 - (a1.length : Int))) < 0)) (some ((-1))) (some (w64 (a2 - (a1.length : Int))))
def F_laws_szStream (k : Nat) (a1 : (List (Int × (Int × Int)))) (a2 : (List Int)) (a3 : Int) (a4 : Int) (a5 : Int) (a6 : Bool) (a7 : Int) (a8 : Int) (a9 : Int) (a10 : Bool) (a11 : (List Int)) (a12 : (List Int)) (a13 : Int) : Option (Int) :=
  (F_laws_szPool k a1 a13).bind fun r1 => cond (decide (r1 < 0)) (some ((-1))) ((F_laws_szIntS k a2 r1).bind fun r3 => cond (decide (r3 < 0)) (some ((-1))) ((F_laws_szIntS k a11 r3).bind fun r5 => cond (decide (r5 < 0)) (some ((-1))) ((F_laws_szIntS k a12 r5).bind fun r7 => cond (decide (r7 < 0)) (some ((-1))) (some (r7)))))
def F_laws_szAction (k : Nat) (a1 : Int) (a2 : Int) (a3 : ByteArray) (a4 : Int) : Option (Int) :=
  cond (decide ((w64 (a4 - (a3.size : Int))) < 0)) (some ((-1))) (some (w64 (a4 - (a3.size : Int))))
def F_laws_szActionS_J2 (k : Nat) (v16 : Int) : Option (Int) :=
  some (v16)
def F_laws_szActionS_L3 (k : Nat) (a1 : (List (Int × (Int × ByteArray)))) (eJ2 : Int → Option (Int)) : Nat → Int × Int → Option (Int)
  | 0, _ => none
  | nL3 + 1, s10 => cond (decide (s10.2 < (a1.length : Int))) ((at? a1 s10.2).bind fun x13 => (F_laws_szAction k x13.1 x13.2.1 x13.2.2 s10.1).bind fun r14 => cond (decide (r14 < 0)) (some ((-1))) ((F_laws_szActionS_L3 k a1 eJ2 nL3) (r14, w64 (s10.2 + 1)))) (eJ2 (s10.1))
def F_laws_szActionS (k : Nat) (a1 : (List (Int × (Int × ByteArray)))) (a2 : Int) : Option (Int) :=
  cond (decide ((w64 (a2 - (a1.length : Int))) < 0)) (some ((-1))) (F_laws_szActionS_L3 k a1 (F_laws_szActionS_J2 k) k (w64 (a2 - (a1.length : Int)), 0))
def F_laws_toNode (k : Nat) (a1 : Int) (a2 : Int) (a3 : Int) : Option (Unit) :=
  some ()
def F_laws_toNodeS_J1 (k : Nat) (v15 : (List (Int × (Int × Int)))) : Option ((List (Int × (Int × Int)))) :=
  some (v15)
def F_laws_toNodeS_L2 (k : Nat) (a1 : (List (Int × (Int × Int)))) (eJ1 : (List (Int × (Int × Int))) → Option ((List (Int × (Int × Int))))) : Nat → Int × (List (Int × (Int × Int))) → Option ((List (Int × (Int × Int))))
  | 0, _ => none
  | nL2 + 1, s9 => cond (decide (s9.1 < (a1.length : Int))) ((at? a1 s9.1).bind fun x12 => (F_laws_toNode k x12.1 x12.2.1 x12.2.2).bind fun r13 => ((at? s9.2 s9.1).bind fun x14 => (F_laws_toNodeS_L2 k a1 eJ1 nL2) (w64 (s9.1 + 1), s9.2.set ((s9.1).toNat) (x12.1, (x12.2.1, x12.2.2))))) (eJ1 (s9.2))
def F_laws_toNodeS (k : Nat) (a1 : (List (Int × (Int × Int)))) : Option ((List (Int × (Int × Int)))) :=
  (if (0 : Int) ≤ (a1.length : Int) ∧ ((a1.length : Int) : Int) ≤ (a1.length : Int) ∧ ((a1.length : Int) : Int) ≤ 1099511627776 then F_laws_toNodeS_L2 k a1 (F_laws_toNodeS_J1 k) k (0, List.replicate (Int.toNat (a1.length : Int)) (0, (0, 0))) else none)
def F_laws_toPool (k : Nat) (a1 : (List (Int × (Int × Int)))) : Option ((List (Int × (Int × Int)))) :=
  (F_laws_toNodeS k a1).bind fun r1 => some (r1)
def F_laws_toIntS_J1 (k : Nat) (v13 : (List Int)) : Option ((List Int)) :=
  some (v13)
def F_laws_toIntS_L2 (k : Nat) (a1 : (List Int)) (eJ1 : (List Int) → Option ((List Int))) : Nat → Int × (List Int) → Option ((List Int))
  | 0, _ => none
  | nL2 + 1, s8 => cond (decide (s8.1 < (a1.length : Int))) ((at? a1 s8.1).bind fun x11 => (at? s8.2 s8.1).bind fun x12 => (F_laws_toIntS_L2 k a1 eJ1 nL2) (w64 (s8.1 + 1), s8.2.set ((s8.1).toNat) x11)) (eJ1 (s8.2))
def F_laws_toIntS (k : Nat) (a1 : (List Int)) : Option ((List Int)) :=
  (if (0 : Int) ≤ (a1.length : Int) ∧ ((a1.length : Int) : Int) ≤ (a1.length : Int) ∧ ((a1.length : Int) : Int) ≤ 1099511627776 then F_laws_toIntS_L2 k a1 (F_laws_toIntS_J1 k) k (0, List.replicate (Int.toNat (a1.length : Int)) 0) else none)
def F_laws_toLink (k : Nat) (a1 : Int) (a2 : Int) (a3 : Int) (a4 : Bool) : Option (Unit) :=
  some ()
def F_laws_toStream (k : Nat) (a1 : (List (Int × (Int × Int)))) (a2 : (List Int)) (a3 : Int) (a4 : Int) (a5 : Int) (a6 : Bool) (a7 : Int) (a8 : Int) (a9 : Int) (a10 : Bool) (a11 : (List Int)) (a12 : (List Int)) : Option ((List (Int × (Int × Int))) × (List Int) × (List Int) × (List Int)) :=
  (F_laws_toPool k a1).bind fun r1 => (F_laws_toIntS k a2).bind fun r2 => (F_laws_toLink k a3 a4 a5 a6).bind fun r3 => (F_laws_toLink k a7 a8 a9 a10).bind fun r4 => (F_laws_toIntS k a11).bind fun r5 => (F_laws_toIntS k a12).bind fun r6 => some (r1, r2, r5, r6)
def F_laws_toAction (k : Nat) (a1 : Int) (a2 : Int) (a3 : ByteArray) : Option (Unit) :=
  some ()
def F_laws_toActionS_J1 (k : Nat) (v15 : (List (Int × (Int × ByteArray)))) : Option ((List (Int × (Int × ByteArray)))) :=
  some (v15)
def F_laws_toActionS_L2 (k : Nat) (a1 : (List (Int × (Int × ByteArray)))) (eJ1 : (List (Int × (Int × ByteArray))) → Option ((List (Int × (Int × ByteArray))))) : Nat → Int × (List (Int × (Int × ByteArray))) → Option ((List (Int × (Int × ByteArray))))
  | 0, _ => none
  | nL2 + 1, s9 => cond (decide (s9.1 < (a1.length : Int))) ((at? a1 s9.1).bind fun x12 => (F_laws_toAction k x12.1 x12.2.1 x12.2.2).bind fun r13 => ((at? s9.2 s9.1).bind fun x14 => (F_laws_toActionS_L2 k a1 eJ1 nL2) (w64 (s9.1 + 1), s9.2.set ((s9.1).toNat) (x12.1, (x12.2.1, x12.2.2))))) (eJ1 (s9.2))
def F_laws_toActionS (k : Nat) (a1 : (List (Int × (Int × ByteArray)))) : Option ((List (Int × (Int × ByteArray)))) :=
  (if (0 : Int) ≤ (a1.length : Int) ∧ ((a1.length : Int) : Int) ≤ (a1.length : Int) ∧ ((a1.length : Int) : Int) ≤ 1099511627776 then F_laws_toActionS_L2 k a1 (F_laws_toActionS_J1 k) k (0, List.replicate (Int.toNat (a1.length : Int)) (0, (0, (⟨#[]⟩ : ByteArray)))) else none)
def F_spec_l1Copy (k : Nat) (a1 : (List (Int × (Int × Int)))) : Option (Unit) :=
  (if ([] : List (Int × (Int × Int))).length + a1.length ≤ 1099511627776 then some () else none)
def F_spec_l19Copy (k : Nat) (a1 : (List (Int × (Int × Int)))) (a2 : (List Int)) (a3 : Int) (a4 : Int) (a5 : Int) (a6 : Bool) (a7 : Int) (a8 : Int) (a9 : Int) (a10 : Bool) (a11 : (List Int)) (a12 : (List Int)) : Option (Unit) :=
  ((F_spec_l1Copy k a1).bind fun r2 => if ([] : List Int).length + a2.length ≤ 1099511627776 then if ([] : List Int).length + a11.length ≤ 1099511627776 then if ([] : List Int).length + a12.length ≤ 1099511627776 then some () else none else none else none)
def F_spec_l1Parts_J6 (k : Nat) (v10 : Bool) : Option (Int) :=
  cond v10 (some (2)) (some ((-1)))
def F_spec_l1Parts_J3 (k : Nat) (a1 : Int) (v4 : Bool) : Option (Int) :=
  cond v4 (some (1)) (cond (a1 == 2) ((F_spec_l1Parts_J6 k) (true)) (cond (a1 == 3) ((F_spec_l1Parts_J6 k) (true)) (cond (a1 == 4) ((F_spec_l1Parts_J6 k) (true)) (cond (a1 == 6) ((F_spec_l1Parts_J6 k) (true)) ((F_spec_l1Parts_J6 k) (a1 == 8))))))
def F_spec_l1Parts (k : Nat) (a1 : Int) : Option (Int) :=
  cond (a1 == 1) (some (0)) (cond (a1 == 5) ((F_spec_l1Parts_J3 k a1) (true)) ((F_spec_l1Parts_J3 k a1) (a1 == 7)))
def F_spec_l1In (k : Nat) (a1 : Int) (a2 : Int) (a3 : Int) : Option (Bool) :=
  cond (decide (a1 ≥ a2)) (some (decide (a1 ≤ a3))) (some (false))
def F_spec_l1Right (k : Nat) (a1 : Int) (a2 : Int) (a3 : Int) (a4 : Int) : Option (Bool) :=
  (F_spec_l1Parts k a1).bind fun r1 => cond (r1 == 0) ((F_spec_l1In k a2 0 199).bind fun r5 => cond r5 (some (a3 == 0)) (some (false))) (cond (r1 == 1) ((F_spec_l1In k a2 0 (w64 (a4 - 1))).bind fun r8 => cond r8 (some (a3 == 0)) (some (false))) (cond (r1 == 2) ((F_spec_l1In k a2 0 (w64 (a4 - 1))).bind fun r11 => cond r11 ((F_spec_l1In k a3 0 (w64 (a4 - 1))).bind fun r12 => cond r12 (cond (a1 != 8) (some (true)) (some (decide (a2 ≤ a3)))) (some (false))) (some (false))) (some (false))))
def F_spec_l1Find_J1 (k : Nat) (v17 : Unit) : Option (Int) :=
  some ((-1))
def F_spec_l1Find_L2 (k : Nat) (a1 : (List (Int × (Int × Int)))) (a2 : Int) (a3 : Int) (a4 : Int) (eJ1 : Unit → Option (Int)) : Nat → Int → Option (Int)
  | 0, _ => none
  | nL2 + 1, s10 => cond (decide (s10 < (a1.length : Int))) ((at? a1 s10).bind fun x14 => cond (x14.1 == a2 && (x14.2.1 == a3 && (x14.2.2 == a4 && true))) (some (s10)) ((F_spec_l1Find_L2 k a1 a2 a3 a4 eJ1 nL2) (w64 (s10 + 1)))) (eJ1 ())
def F_spec_l1Find (k : Nat) (a1 : (List (Int × (Int × Int)))) (a2 : Int) (a3 : Int) (a4 : Int) : Option (Int) :=
  F_spec_l1Find_L2 k a1 a2 a3 a4 (F_spec_l1Find_J1 k) k (0)
def F_spec_PoolOk_J2 (k : Nat) (v24 : Unit) : Option (Bool) :=
  some (true)
def F_spec_PoolOk_J17 (k : Nat) (s14 : Int) (bL3 : Int → Option (Bool)) (v22 : Bool) : Option (Bool) :=
  cond v22 (some (false)) (bL3 (w64 (s14 + 1)))
def F_spec_PoolOk_L3 (k : Nat) (a1 : (List (Int × (Int × Int)))) (eJ2 : Unit → Option (Bool)) : Nat → Int → Option (Bool)
  | 0, _ => none
  | nL3 + 1, s14 => cond (decide (s14 < (a1.length : Int))) ((at? a1 s14).bind fun x18 => (F_spec_l1Right k x18.1 x18.2.1 x18.2.2 s14).bind fun r19 => cond (!r19) ((F_spec_PoolOk_J17 k s14 (F_spec_PoolOk_L3 k a1 eJ2 nL3)) (true)) ((at? a1 s14).bind fun x20 => (F_spec_l1Find k a1 x20.1 x20.2.1 x20.2.2).bind fun r21 => (F_spec_PoolOk_J17 k s14 (F_spec_PoolOk_L3 k a1 eJ2 nL3)) (r21 != s14))) (eJ2 ())
def F_spec_PoolOk (k : Nat) (a1 : (List (Int × (Int × Int)))) : Option (Bool) :=
  cond (decide ((a1.length : Int) > 500)) (some (false)) (F_spec_PoolOk_L3 k a1 (F_spec_PoolOk_J2 k) k (0))
def F_spec_l1Has (k : Nat) (a1 : (List (Int × (Int × Int)))) (a2 : Int) : Option (Bool) :=
  (F_spec_l1In k a2 0 (w64 ((a1.length : Int) - 1))).bind fun r1 => some (r1)
def F_spec_l6Know_J2 (k : Nat) (v24 : Unit) : Option (Bool) :=
  some (true)
def F_spec_l6Know_J17 (k : Nat) (s14 : Int) (bL3 : Int → Option (Bool)) (v22 : Bool) : Option (Bool) :=
  cond v22 (some (false)) (bL3 (w64 (s14 + 1)))
def F_spec_l6Know_L3 (k : Nat) (a1 : (List (Int × (Int × Int)))) (a2 : (List Int)) (eJ2 : Unit → Option (Bool)) : Nat → Int → Option (Bool)
  | 0, _ => none
  | nL3 + 1, s14 => cond (decide (s14 < (a2.length : Int))) ((at? a2 s14).bind fun x18 => (F_spec_l1Has k a1 x18).bind fun r19 => cond (!r19) ((F_spec_l6Know_J17 k s14 (F_spec_l6Know_L3 k a1 a2 eJ2 nL3)) (true)) (cond (decide (s14 > 0)) ((at? a2 (w64 (s14 - 1))).bind fun x20 => (at? a2 s14).bind fun x21 => (F_spec_l6Know_J17 k s14 (F_spec_l6Know_L3 k a1 a2 eJ2 nL3)) (decide (x20 ≥ x21))) ((F_spec_l6Know_J17 k s14 (F_spec_l6Know_L3 k a1 a2 eJ2 nL3)) (false)))) (eJ2 ())
def F_spec_l6Know (k : Nat) (a1 : (List (Int × (Int × Int)))) (a2 : (List Int)) : Option (Bool) :=
  cond (decide ((a2.length : Int) > 200)) (some (false)) (F_spec_l6Know_L3 k a1 a2 (F_spec_l6Know_J2 k) k (0))
def F_spec_KnowOk (k : Nat) (a1 : (List (Int × (Int × Int)))) (a2 : (List Int)) : Option (Bool) :=
  (F_spec_PoolOk k a1).bind fun r2 => cond r2 ((F_spec_l6Know k a1 a2).bind fun r3 => some (r3)) (some (false))
def F_spec_l18Link (k : Nat) (a1 : (List (Int × (Int × Int)))) (a2 : Int) (a3 : Int) (a4 : Int) (a5 : Bool) : Option (Bool) :=
  (F_spec_l1Has k a1 a2).bind fun r2 => cond r2 ((F_spec_l1In k a3 0 20).bind fun r3 => cond r3 ((F_spec_l1In k a4 0 20).bind fun r4 => some (r4)) (some (false))) (some (false))
def F_spec_l19Terms_J1 (k : Nat) (a2 : (List Int)) (v21 : Unit) : Option (Bool) :=
  some (decide ((a2.length : Int) ≤ 60))
def F_spec_l19Terms_L2 (k : Nat) (a1 : (List (Int × (Int × Int)))) (a2 : (List Int)) (eJ1 : Unit → Option (Bool)) : Nat → Int → Option (Bool)
  | 0, _ => none
  | nL2 + 1, s12 => cond (decide (s12 < (a2.length : Int))) ((at? a2 s12).bind fun x16 => (F_spec_l1Has k a1 x16).bind fun r17 => cond (!r17) (some (false)) ((F_spec_l19Terms_L2 k a1 a2 eJ1 nL2) (w64 (s12 + 1)))) (eJ1 ())
def F_spec_l19Terms (k : Nat) (a1 : (List (Int × (Int × Int)))) (a2 : (List Int)) : Option (Bool) :=
  F_spec_l19Terms_L2 k a1 a2 (F_spec_l19Terms_J1 k a2) k (0)
def F_spec_StreamOk (k : Nat) (a1 : (List (Int × (Int × Int)))) (a2 : (List Int)) (a3 : Int) (a4 : Int) (a5 : Int) (a6 : Bool) (a7 : Int) (a8 : Int) (a9 : Int) (a10 : Bool) (a11 : (List Int)) (a12 : (List Int)) : Option (Bool) :=
  (F_spec_KnowOk k a1 a2).bind fun r2 => cond r2 ((F_spec_l18Link k a1 a3 a4 a5 a6).bind fun r3 => cond r3 ((F_spec_l18Link k a1 a7 a8 a9 a10).bind fun r4 => cond r4 ((F_spec_l19Terms k a1 a11).bind fun r5 => cond r5 ((F_spec_l19Terms k a1 a12).bind fun r6 => some (r6)) (some (false))) (some (false))) (some (false))) (some (false))
def F_spec_l19Action_J1 (k : Nat) (a1 : Int) (a2 : Int) (a3 : ByteArray) (v8 : Int × ByteArray) : Option (Bool) :=
  some ((a1 == a1 && (a2 == v8.1 && (a3.toList == v8.2.toList && true))))
def F_spec_l19Action_J4 (k : Nat) (a1 : Int) (a2 : Int) (a3 : ByteArray) (v6 : Bool) : Option (Bool) :=
  cond v6 (some ((a1 == a1 && (a2 == 0 && (a3.toList == (⟨#[]⟩ : ByteArray).toList && true))))) (some (false))
def F_spec_l19Action (k : Nat) (a1 : Int) (a2 : Int) (a3 : ByteArray) : Option (Bool) :=
  cond (a1 == 1) ((F_spec_l19Action_J1 k a1 a2 a3) (a2, (⟨#[]⟩ : ByteArray))) (cond (a1 == 4) ((F_spec_l19Action_J1 k a1 a2 a3) (0, a3)) (cond (a1 == 2) ((F_spec_l19Action_J4 k a1 a2 a3) (true)) (cond (a1 == 3) ((F_spec_l19Action_J4 k a1 a2 a3) (true)) ((F_spec_l19Action_J4 k a1 a2 a3) (a1 == 5)))))
def F_spec_l18End (k : Nat) (a1 : (List (Int × (Int × Int)))) (a2 : Int) : Option (Bool) :=
  ((at? a1 a2).bind fun x1 => some ((x1.1 == 1 && (x1.2.1 == 8 && (x1.2.2 == 0 && true)))))
def F_spec_l1Add_J7 (k : Nat) (a1 : (List (Int × (Int × Int)))) (a2 : Int) (v4 : Int × Int) (v9 : Bool) : Option ((List (Int × (Int × Int))) × Int) :=
  cond v9 (some (a1, (-1))) ((F_spec_l1Copy k a1).bind fun r11 => (if (([] : List (Int × (Int × Int))) ++ a1).length + [(a2, (v4.1, v4.2))].length ≤ 1099511627776 then some ((([] : List (Int × (Int × Int))) ++ a1) ++ [(a2, (v4.1, v4.2))], (a1.length : Int)) else none))
def F_spec_l1Add_J3 (k : Nat) (a1 : (List (Int × (Int × Int)))) (a2 : Int) (v4 : Int × Int) : Option ((List (Int × (Int × Int))) × Int) :=
  (F_spec_l1Find k a1 a2 v4.1 v4.2).bind fun r5 => cond (decide (r5 ≥ 0)) (some (a1, r5)) ((F_spec_l1Right k a2 v4.1 v4.2 (a1.length : Int)).bind fun r8 => cond (!r8) ((F_spec_l1Add_J7 k a1 a2 v4) (true)) ((F_spec_l1Add_J7 k a1 a2 v4) ((a1.length : Int) == 500)))
def F_spec_l1Add_J1 (k : Nat) (a1 : (List (Int × (Int × Int)))) (a2 : Int) (a3 : Int) (a4 : Int) (v2 : Bool) : Option ((List (Int × (Int × Int))) × Int) :=
  cond v2 ((F_spec_l1Add_J3 k a1 a2) (a4, a3)) ((F_spec_l1Add_J3 k a1 a2) (a3, a4))
def F_spec_l1Add (k : Nat) (a1 : (List (Int × (Int × Int)))) (a2 : Int) (a3 : Int) (a4 : Int) : Option ((List (Int × (Int × Int))) × Int) :=
  cond (a2 == 8) ((F_spec_l1Add_J1 k a1 a2 a3 a4) (decide (a3 > a4))) ((F_spec_l1Add_J1 k a1 a2 a3 a4) (false))
def F_spec_l2Name (k : Nat) (a1 : (List (Int × (Int × Int)))) (a2 : Int) : Option ((List (Int × (Int × Int))) × Int) :=
  (F_spec_l1Add k a1 1 a2 0).bind fun r1 => some (r1.1, r1.2)
def F_spec_l18Word (k : Nat) (a1 : (List (Int × (Int × Int)))) (a2 : Int) (a3 : Int) (a4 : Int) (a5 : Bool) (a6 : Int) : Option ((List (Int × (Int × Int))) × Int) :=
  (F_spec_l2Name k a1 (w64 (20 + a4))).bind fun r1 => cond (decide (r1.2 < 0)) (some (a1, (-1))) ((F_spec_l1Add k r1.1 2 r1.2 a6).bind fun r3 => cond (decide (r3.2 < 0)) (some (a1, (-1))) ((F_spec_l1Add k r3.1 3 r3.2 a2).bind fun r5 => cond (decide (r5.2 < 0)) (some (a1, (-1))) (some (r5.1, r5.2))))
def F_spec_l18Send_J1 (k : Nat) (a1 : (List (Int × (Int × Int)))) (a2 : Int) (a3 : Int) (a4 : Int) (a5 : Bool) (a6 : Int) (v4 : Bool) : Option ((List (Int × (Int × Int))) × Int × Int) :=
  cond v4 (some (a1, a4, (-1))) ((F_spec_l18Word k a1 a2 a3 a4 a5 a6).bind fun r7 => cond (decide (r7.2 < 0)) (some (a1, a4, (-1))) (some (r7.1, w64 (a4 + 1), r7.2)))
def F_spec_l18Send (k : Nat) (a1 : (List (Int × (Int × Int)))) (a2 : Int) (a3 : Int) (a4 : Int) (a5 : Bool) (a6 : Int) : Option ((List (Int × (Int × Int))) × Int × Int) :=
  (F_spec_l1Has k a1 a6).bind fun r2 => cond (!r2) ((F_spec_l18Send_J1 k a1 a2 a3 a4 a5 a6) (true)) ((F_spec_l18End k a1 a6).bind fun r3 => cond r3 ((F_spec_l18Send_J1 k a1 a2 a3 a4 a5 a6) (true)) (cond a5 ((F_spec_l18Send_J1 k a1 a2 a3 a4 a5 a6) (true)) ((F_spec_l18Send_J1 k a1 a2 a3 a4 a5 a6) (a4 == 20))))
def F_spec_KnowHas_J1 (k : Nat) (v13 : Unit) : Option (Bool) :=
  some (false)
def F_spec_KnowHas_L2 (k : Nat) (a1 : (List Int)) (a2 : Int) (eJ1 : Unit → Option (Bool)) : Nat → Int → Option (Bool)
  | 0, _ => none
  | nL2 + 1, s8 => cond (decide (s8 < (a1.length : Int))) ((at? a1 s8).bind fun x11 => cond (x11 == a2) (some (true)) ((F_spec_KnowHas_L2 k a1 a2 eJ1 nL2) (w64 (s8 + 1)))) (eJ1 ())
def F_spec_KnowHas (k : Nat) (a1 : (List Int)) (a2 : Int) : Option (Bool) :=
  F_spec_KnowHas_L2 k a1 a2 (F_spec_KnowHas_J1 k) k (0)
def F_spec_l6Put_J23 (k : Nat) (v24 : (List Int)) : Option ((List Int)) :=
  some (v24)
def F_spec_l6Put_J2 (k : Nat) (a2 : Int) (v22 : Bool × (List Int)) : Option ((List Int)) :=
  cond (!v22.1) (if v22.2.length + [a2].length ≤ 1099511627776 then (F_spec_l6Put_J23 k) (v22.2 ++ [a2]) else none) ((F_spec_l6Put_J23 k) (v22.2))
def F_spec_l6Put_J19 (k : Nat) (a1 : (List Int)) (s13 : Bool × Int × (List Int)) (bL3 : Bool × Int × (List Int) → Option ((List Int))) (v20 : Bool × (List Int)) : Option ((List Int)) :=
  ((at? a1 s13.2.1).bind fun x21 => (if v20.2.length + [x21].length ≤ 1099511627776 then bL3 (v20.1, w64 (s13.2.1 + 1), v20.2 ++ [x21]) else none))
def F_spec_l6Put_J16 (k : Nat) (a1 : (List Int)) (a2 : Int) (s13 : Bool × Int × (List Int)) (bL3 : Bool × Int × (List Int) → Option ((List Int))) (v18 : Bool) : Option ((List Int)) :=
  cond v18 (if s13.2.2.length + [a2].length ≤ 1099511627776 then (F_spec_l6Put_J19 k a1 s13 bL3) (true, s13.2.2 ++ [a2]) else none) ((F_spec_l6Put_J19 k a1 s13 bL3) (s13.1, s13.2.2))
def F_spec_l6Put_L3 (k : Nat) (a1 : (List Int)) (a2 : Int) (eJ2 : Bool × (List Int) → Option ((List Int))) : Nat → Bool × Int × (List Int) → Option ((List Int))
  | 0, _ => none
  | nL3 + 1, s13 => cond (decide (s13.2.1 < (a1.length : Int))) (cond (!s13.1) ((at? a1 s13.2.1).bind fun x17 => (F_spec_l6Put_J16 k a1 a2 s13 (F_spec_l6Put_L3 k a1 a2 eJ2 nL3)) (decide (x17 > a2))) ((F_spec_l6Put_J16 k a1 a2 s13 (F_spec_l6Put_L3 k a1 a2 eJ2 nL3)) (false))) (eJ2 (s13.1, s13.2.2))
def F_spec_l6Put (k : Nat) (a1 : (List Int)) (a2 : Int) : Option ((List Int)) :=
  (F_spec_KnowHas k a1 a2).bind fun r1 => F_spec_l6Put_L3 k a1 a2 (F_spec_l6Put_J2 k a2) k (r1, 0, ([] : List Int))
def F_spec_l19Hear (k : Nat) (a1 : (List (Int × (Int × Int)))) (a2 : (List Int)) (a3 : Int) (a4 : Int) (a5 : Int) (a6 : Bool) (a7 : Int) (a8 : Int) (a9 : Int) (a10 : Bool) (a11 : (List Int)) (a12 : (List Int)) (a13 : Int) : Option ((List Int) × Bool) :=
  cond (decide (a13 < 0)) (some (a2, false)) ((F_spec_l6Put k a2 a13).bind fun r2 => some (r2, decide ((r2.length : Int) ≤ 200)))
def F_spec_l18Close_J1 (k : Nat) (a1 : (List (Int × (Int × Int)))) (a2 : Int) (a3 : Int) (a4 : Int) (a5 : Bool) (v2 : Bool) : Option ((List (Int × (Int × Int))) × Bool × Int) :=
  cond v2 (some (a1, a5, (-1))) ((F_spec_l2Name k a1 8).bind fun r5 => cond (decide (r5.2 < 0)) (some (a1, a5, (-1))) ((F_spec_l18Word k r5.1 a2 a3 a4 a5 r5.2).bind fun r8 => cond (decide (r8.2 < 0)) (some (a1, a5, (-1))) (some (r8.1, true, r8.2))))
def F_spec_l18Close (k : Nat) (a1 : (List (Int × (Int × Int)))) (a2 : Int) (a3 : Int) (a4 : Int) (a5 : Bool) : Option ((List (Int × (Int × Int))) × Bool × Int) :=
  cond a5 ((F_spec_l18Close_J1 k a1 a2 a3 a4 a5) (true)) ((F_spec_l18Close_J1 k a1 a2 a3 a4 a5) (a4 == 20))
def F_spec_l18Turn_J1 (k : Nat) (a1 : (List (Int × (Int × Int)))) (a2 : Int) (a3 : Int) (a4 : Int) (a5 : Bool) (v2 : Bool) : Option ((List (Int × (Int × Int))) × Int × Int × Int × Bool × Bool) :=
  cond v2 (some (a1, a2, a3, a4, a5, false)) ((F_spec_l2Name k a1 7).bind fun r5 => cond (decide (r5.2 < 0)) (some (a1, a2, a3, a4, a5, false)) ((F_spec_l1Add k r5.1 6 a2 r5.2).bind fun r8 => cond (decide (r8.2 < 0)) (some (a1, a2, a3, a4, a5, false)) (some (r8.1, r8.2, w64 (a3 + 1), 0, false, true))))
def F_spec_l18Turn (k : Nat) (a1 : (List (Int × (Int × Int)))) (a2 : Int) (a3 : Int) (a4 : Int) (a5 : Bool) : Option ((List (Int × (Int × Int))) × Int × Int × Int × Bool × Bool) :=
  cond a5 ((F_spec_l18Turn_J1 k a1 a2 a3 a4 a5) (true)) ((F_spec_l18Turn_J1 k a1 a2 a3 a4 a5) (a3 == 20))
def F_spec_l10Num_J14 (k : Nat) (v13 : Int × Int) (v15 : Bool) : Option (Int × Int × Bool) :=
  cond v15 (some (0, 0, false)) (some (v13.2, v13.1, true))
def F_spec_l10Num_J1 (k : Nat) (a1 : ByteArray) (a2 : Int) (v13 : Int × Int) : Option (Int × Int × Bool) :=
  cond (v13.1 == a2) ((F_spec_l10Num_J14 k v13) (true)) (cond (decide ((w64 (v13.1 - a2)) > 4)) ((F_spec_l10Num_J14 k v13) (true)) (if (0 : Int) ≤ a2 ∧ a2 < a1.size then cond ((bt a1 a2) == 48) ((F_spec_l10Num_J14 k v13) (decide ((w64 (v13.1 - a2)) > 1))) ((F_spec_l10Num_J14 k v13) (false)) else none))
def F_spec_l10Num_J9 (k : Nat) (a1 : ByteArray) (s8 : Int × Int) (eJ1 : Int × Int → Option (Int × Int × Bool)) (bL2 : Int × Int → Option (Int × Int × Bool)) (v10 : Bool) : Option (Int × Int × Bool) :=
  cond v10 (if (0 : Int) ≤ s8.1 ∧ s8.1 < a1.size then bL2 (w64 (s8.1 + 1), w64 ((w64 ((w64 (10 * s8.2)) + (IntKind.i64.wrap (bt a1 s8.1)))) - 48)) else none) (eJ1 (s8.1, s8.2))
def F_spec_l10Num_L2 (k : Nat) (a1 : ByteArray) (a2 : Int) (eJ1 : Int × Int → Option (Int × Int × Bool)) : Nat → Int × Int → Option (Int × Int × Bool)
  | 0, _ => none
  | nL2 + 1, s8 => cond (decide (s8.1 < (a1.size : Int))) (if (0 : Int) ≤ s8.1 ∧ s8.1 < a1.size then cond (decide ((bt a1 s8.1) ≥ 48)) (if (0 : Int) ≤ s8.1 ∧ s8.1 < a1.size then cond (decide ((bt a1 s8.1) ≤ 57)) ((F_spec_l10Num_J9 k a1 s8 eJ1 (F_spec_l10Num_L2 k a1 a2 eJ1 nL2)) (decide ((w64 (s8.1 - a2)) < 5))) ((F_spec_l10Num_J9 k a1 s8 eJ1 (F_spec_l10Num_L2 k a1 a2 eJ1 nL2)) (false)) else none) ((F_spec_l10Num_J9 k a1 s8 eJ1 (F_spec_l10Num_L2 k a1 a2 eJ1 nL2)) (false)) else none) ((F_spec_l10Num_J9 k a1 s8 eJ1 (F_spec_l10Num_L2 k a1 a2 eJ1 nL2)) (false))
def F_spec_l10Num (k : Nat) (a1 : ByteArray) (a2 : Int) : Option (Int × Int × Bool) :=
  F_spec_l10Num_L2 k a1 a2 (F_spec_l10Num_J1 k a1 a2) k (a2, 0)
def F_spec_l4Name_J14 (k : Nat) (v13 : Int × Int) (v15 : Bool) : Option (Int × Int × Bool) :=
  cond v15 (some (0, 0, false)) (some (v13.2, v13.1, true))
def F_spec_l4Name_J1 (k : Nat) (a1 : ByteArray) (a2 : Int) (v13 : Int × Int) : Option (Int × Int × Bool) :=
  cond (v13.1 == a2) ((F_spec_l4Name_J14 k v13) (true)) (cond (decide ((w64 (v13.1 - a2)) > 3)) ((F_spec_l4Name_J14 k v13) (true)) (if (0 : Int) ≤ a2 ∧ a2 < a1.size then cond ((bt a1 a2) == 48) (cond (decide ((w64 (v13.1 - a2)) > 1)) ((F_spec_l4Name_J14 k v13) (true)) ((F_spec_l4Name_J14 k v13) (decide (v13.2 ≥ 200)))) ((F_spec_l4Name_J14 k v13) (decide (v13.2 ≥ 200))) else none))
def F_spec_l4Name_J9 (k : Nat) (a1 : ByteArray) (s8 : Int × Int) (eJ1 : Int × Int → Option (Int × Int × Bool)) (bL2 : Int × Int → Option (Int × Int × Bool)) (v10 : Bool) : Option (Int × Int × Bool) :=
  cond v10 (if (0 : Int) ≤ s8.1 ∧ s8.1 < a1.size then bL2 (w64 (s8.1 + 1), w64 ((w64 ((w64 (10 * s8.2)) + (IntKind.i64.wrap (bt a1 s8.1)))) - 48)) else none) (eJ1 (s8.1, s8.2))
def F_spec_l4Name_L2 (k : Nat) (a1 : ByteArray) (a2 : Int) (eJ1 : Int × Int → Option (Int × Int × Bool)) : Nat → Int × Int → Option (Int × Int × Bool)
  | 0, _ => none
  | nL2 + 1, s8 => cond (decide (s8.1 < (a1.size : Int))) (if (0 : Int) ≤ s8.1 ∧ s8.1 < a1.size then cond (decide ((bt a1 s8.1) ≥ 48)) (if (0 : Int) ≤ s8.1 ∧ s8.1 < a1.size then cond (decide ((bt a1 s8.1) ≤ 57)) ((F_spec_l4Name_J9 k a1 s8 eJ1 (F_spec_l4Name_L2 k a1 a2 eJ1 nL2)) (decide ((w64 (s8.1 - a2)) < 4))) ((F_spec_l4Name_J9 k a1 s8 eJ1 (F_spec_l4Name_L2 k a1 a2 eJ1 nL2)) (false)) else none) ((F_spec_l4Name_J9 k a1 s8 eJ1 (F_spec_l4Name_L2 k a1 a2 eJ1 nL2)) (false)) else none) ((F_spec_l4Name_J9 k a1 s8 eJ1 (F_spec_l4Name_L2 k a1 a2 eJ1 nL2)) (false))
def F_spec_l4Name (k : Nat) (a1 : ByteArray) (a2 : Int) : Option (Int × Int × Bool) :=
  F_spec_l4Name_L2 k a1 a2 (F_spec_l4Name_J1 k a1 a2) k (a2, 0)
def F_spec_IsPublic (k : Nat) (a1 : Int) : Option (Bool) :=
  (F_spec_l1In k a1 0 49).bind fun r1 => some (r1)
def F_spec_l10Apply_J9 (k : Nat) (x1 : (Int × (Int × Int))) (v10 : Bool) : Option (Int) :=
  cond v10 (some (x1.2.2)) (some ((-1)))
def F_spec_l10Apply_J5 (k : Nat) (x1 : (Int × (Int × Int))) (a2 : Int) (v7 : Bool) : Option (Int) :=
  cond v7 (some (x1.2.1)) (cond (a2 == 62) ((F_spec_l10Apply_J9 k x1) (x1.1 == 2)) ((F_spec_l10Apply_J9 k x1) (false)))
def F_spec_l10Apply_J3 (k : Nat) (x1 : (Int × (Int × Int))) (a2 : Int) (v4 : Bool) : Option (Int) :=
  cond v4 ((F_spec_l10Apply_J5 k x1 a2) (true)) (cond (a2 == 33) ((F_spec_l10Apply_J5 k x1 a2) (x1.1 == 4)) ((F_spec_l10Apply_J5 k x1 a2) (false)))
def F_spec_l10Apply (k : Nat) (a1 : (List (Int × (Int × Int)))) (a2 : Int) (a3 : Int) : Option (Int) :=
  ((at? a1 a3).bind fun x1 => cond (a2 == 60) ((F_spec_l10Apply_J3 k x1 a2) (x1.1 == 2)) ((F_spec_l10Apply_J3 k x1 a2) (false)))
def F_spec_l4Want (k : Nat) (a1 : ByteArray) (a2 : Int) (a3 : Int) : Option (Int × Int) :=
  cond (decide (a2 ≥ (a1.size : Int))) (some ((a1.size : Int), 2)) (if (0 : Int) ≤ a2 ∧ a2 < a1.size then cond ((bt a1 a2) != a3) (some (a2, 3)) (some (w64 (a2 + 1), 0)) else none)
def F_spec_l10Two_J13 (k : Nat) (v6 : Int × Int × Int × (List (Int × (Int × Int)))) (v12 : Int × Int × Int × (List (Int × (Int × Int)))) (v15 : Int × Int) : Option ((List (Int × (Int × Int))) × Int × Int × Int × Int) :=
  some (v12.2.2.2, v6.2.2.1, v12.2.2.1, v15.1, v15.2)
def F_spec_l10Two_J10 (k : Nat) (a3 : ByteArray) (a6 : Int) (v6 : Int × Int × Int × (List (Int × (Int × Int)))) (v12 : Int × Int × Int × (List (Int × (Int × Int)))) : Option ((List (Int × (Int × Int))) × Int × Int × Int × Int) :=
  cond (v12.2.1 == 0) ((F_spec_l4Want k a3 v12.1 a6).bind fun r14 => (F_spec_l10Two_J13 k v6 v12) (r14.1, r14.2)) ((F_spec_l10Two_J13 k v6 v12) (v12.1, v12.2.1))
def F_spec_l10Two_J7 (k : Nat) (a2 : (List Int)) (a3 : ByteArray) (a6 : Int) (v6 : Int × Int × Int × (List (Int × (Int × Int)))) (q_spec_l10Run : (List (Int × (Int × Int))) → (List Int) → ByteArray → Int → Option ((List (Int × (Int × Int))) × Int × Int × Int)) (v9 : Int × Int) : Option ((List (Int × (Int × Int))) × Int × Int × Int × Int) :=
  cond (v9.2 == 0) ((q_spec_l10Run v6.2.2.2 a2 a3 v9.1).bind fun r11 => (F_spec_l10Two_J10 k a3 a6 v6) (r11.2.2.1, r11.2.2.2, r11.2.1, r11.1)) ((F_spec_l10Two_J10 k a3 a6 v6) (v9.1, v9.2, (-1), v6.2.2.2))
def F_spec_l10Two_J4 (k : Nat) (a2 : (List Int)) (a3 : ByteArray) (a6 : Int) (q_spec_l10Run : (List (Int × (Int × Int))) → (List Int) → ByteArray → Int → Option ((List (Int × (Int × Int))) × Int × Int × Int)) (v6 : Int × Int × Int × (List (Int × (Int × Int)))) : Option ((List (Int × (Int × Int))) × Int × Int × Int × Int) :=
  cond (v6.2.1 == 0) ((F_spec_l4Want k a3 v6.1 44).bind fun r8 => (F_spec_l10Two_J7 k a2 a3 a6 v6 q_spec_l10Run) (r8.1, r8.2)) ((F_spec_l10Two_J7 k a2 a3 a6 v6 q_spec_l10Run) (v6.1, v6.2.1))
def F_spec_l10Two_J1 (k : Nat) (a1 : (List (Int × (Int × Int)))) (a2 : (List Int)) (a3 : ByteArray) (a6 : Int) (q_spec_l10Run : (List (Int × (Int × Int))) → (List Int) → ByteArray → Int → Option ((List (Int × (Int × Int))) × Int × Int × Int)) (v3 : Int × Int) : Option ((List (Int × (Int × Int))) × Int × Int × Int × Int) :=
  cond (v3.2 == 0) ((q_spec_l10Run a1 a2 a3 v3.1).bind fun r5 => (F_spec_l10Two_J4 k a2 a3 a6 q_spec_l10Run) (r5.2.2.1, r5.2.2.2, r5.2.1, r5.1)) ((F_spec_l10Two_J4 k a2 a3 a6 q_spec_l10Run) (v3.1, v3.2, (-1), a1))
def F_spec_l10Two (k : Nat) (q_spec_l10Run : (List (Int × (Int × Int))) → (List Int) → ByteArray → Int → Option ((List (Int × (Int × Int))) × Int × Int × Int)) (a1 : (List (Int × (Int × Int)))) (a2 : (List Int)) (a3 : ByteArray) (a4 : Int) (a5 : Bool) (a6 : Int) : Option ((List (Int × (Int × Int))) × Int × Int × Int × Int) :=
  cond a5 ((F_spec_l4Want k a3 a4 40).bind fun r2 => (F_spec_l10Two_J1 k a1 a2 a3 a6 q_spec_l10Run) (r2.1, r2.2)) ((F_spec_l10Two_J1 k a1 a2 a3 a6 q_spec_l10Run) (a4, 0))
def F_spec_l3Raise_J1 (k : Nat) (a1 : (List (Int × (Int × Int)))) (a2 : Int) (a3 : Int) (v5 : Bool) : Option ((List (Int × (Int × Int))) × Int) :=
  cond v5 (some (a1, (-1))) ((at? a1 a2).bind fun x8 => (F_spec_l1Add k a1 8 a3 x8.2.1).bind fun r9 => some (r9.1, r9.2))
def F_spec_l3Raise (k : Nat) (a1 : (List (Int × (Int × Int)))) (a2 : Int) (a3 : Int) : Option ((List (Int × (Int × Int))) × Int) :=
  (F_spec_l1Has k a1 a2).bind fun r2 => cond (!r2) ((F_spec_l3Raise_J1 k a1 a2 a3) (true)) ((F_spec_l1Has k a1 a3).bind fun r3 => cond (!r3) ((F_spec_l3Raise_J1 k a1 a2 a3) (true)) ((at? a1 a2).bind fun x4 => (F_spec_l3Raise_J1 k a1 a2 a3) (x4.1 != 7)))
def F_spec_l10Both_J3 (k : Nat) (a1 : (List (Int × (Int × Int)))) (x2 : (Int × (Int × Int))) (v4 : Bool) : Option ((List (Int × (Int × Int))) × Int × Int) :=
  cond v4 (some (a1, (-1), 7)) (some (a1, x2.2.1, 0))
def F_spec_l10Both (k : Nat) (a1 : (List (Int × (Int × Int)))) (a2 : Int) (a3 : Int) (a4 : Int) : Option ((List (Int × (Int × Int))) × Int × Int) :=
  cond (a2 == 111) ((at? a1 a3).bind fun x2 => cond (x2.1 != 3) ((F_spec_l10Both_J3 k a1 x2) (true)) ((F_spec_l10Both_J3 k a1 x2) (x2.2.2 != a4))) ((at? a1 a4).bind fun x7 => cond (x7.1 != 7) (some (a1, (-1), 7)) ((F_spec_l3Raise k a1 a4 a3).bind fun r9 => cond (decide (r9.2 < 0)) (some (a1, (-1), 5)) (some (r9.1, r9.2, 0))))
def F_spec_l4Kind (k : Nat) (a1 : ByteArray) (a2 : Int) : Option (Int × Int × Int) :=
  (if (0 : Int) ≤ a2 ∧ a2 < a1.size then cond ((bt a1 a2) == 40) (some (2, 1, 41)) (cond ((bt a1 a2) == 123) (some (3, 1, 125)) (cond ((bt a1 a2) == 91) (some (4, 1, 93)) (cond ((bt a1 a2) == 35) (some (5, 1, 0)) (cond ((bt a1 a2) == 94) (some (7, 1, 0)) (cond ((bt a1 a2) == 107) (some (6, 2, 41)) (cond ((bt a1 a2) == 42) (some (8, 2, 41)) (some (0, 0, 0)))))))) else none)
def F_spec_l10Run_J5 (k : Nat) (a1 : (List (Int × (Int × Int)))) (a2 : (List Int)) (a4 : Int) (r4 : Int × Int × Bool) (v6 : Bool) : Option ((List (Int × (Int × Int))) × Int × Int × Int) :=
  cond v6 (some (a1, (-1), a4, 4)) ((at? a2 r4.1).bind fun x9 => some (a1, x9, r4.2.1, 0))
def F_spec_l10Run_J13 (k : Nat) (a1 : (List (Int × (Int × Int)))) (a4 : Int) (r12 : Int × Int × Bool) (v15 : Bool) : Option ((List (Int × (Int × Int))) × Int × Int × Int) :=
  cond v15 (some (a1, (-1), a4, 4)) ((F_spec_l2Name k a1 r12.1).bind fun r17 => cond (decide (r17.2 < 0)) (some (a1, (-1), r12.2.1, 5)) (some (r17.1, r17.2, r12.2.1, 0)))
def F_spec_l10Run_J34 (k : Nat) (r33 : Int × Int × Int) (v41 : Int × Int × Int × Int × (List (Int × (Int × Int)))) : Option ((List (Int × (Int × Int))) × Int × Int × Int) :=
  cond (v41.2.1 != 0) (some (v41.2.2.2.2, (-1), v41.1, v41.2.1)) ((F_spec_l1Add k v41.2.2.2.2 r33.1 v41.2.2.1 v41.2.2.2.1).bind fun r43 => cond (decide (r43.2 < 0)) (some (v41.2.2.2.2, (-1), v41.1, 5)) (some (r43.1, r43.2, v41.1, 0)))
def F_spec_l10Run_J35 (k : Nat) (a1 : (List (Int × (Int × Int)))) (a2 : (List Int)) (a3 : ByteArray) (a4 : Int) (q_spec_l10Run : (List (Int × (Int × Int))) → (List Int) → ByteArray → Int → Option ((List (Int × (Int × Int))) × Int × Int × Int)) (r33 : Int × Int × Int) (v36 : Bool) : Option ((List (Int × (Int × Int))) × Int × Int × Int) :=
  cond v36 ((F_spec_l10Two k q_spec_l10Run a1 a2 a3 (w64 (a4 + 1)) (r33.2.1 == 2) r33.2.2).bind fun r38 => (F_spec_l10Run_J34 k r33) (r38.2.2.2.1, r38.2.2.2.2, r38.2.1, r38.2.2.1, r38.1)) (cond (decide (r33.1 > 0)) ((q_spec_l10Run a1 a2 a3 (w64 (a4 + 1))).bind fun r40 => (F_spec_l10Run_J34 k r33) (r40.2.2.1, r40.2.2.2, r40.2.1, 0, r40.1)) ((F_spec_l10Run_J34 k r33) (a4, 3, 0, 0, a1)))
def F_spec_l10Run_J27 (k : Nat) (a1 : (List (Int × (Int × Int)))) (a2 : (List Int)) (a3 : ByteArray) (a4 : Int) (q_spec_l10Run : (List (Int × (Int × Int))) → (List Int) → ByteArray → Int → Option ((List (Int × (Int × Int))) × Int × Int × Int)) (v28 : Bool) : Option ((List (Int × (Int × Int))) × Int × Int × Int) :=
  cond v28 ((F_spec_l10Two k q_spec_l10Run a1 a2 a3 (w64 (a4 + 1)) true 41).bind fun r30 => cond (r30.2.2.2.2 != 0) (some (r30.1, (-1), r30.2.2.2.1, r30.2.2.2.2)) ((F_spec_l10Both k r30.1 (bt a3 a4) r30.2.1 r30.2.2.1).bind fun r32 => some (r32.1, r32.2.1, r30.2.2.2.1, r32.2.2))) ((F_spec_l4Kind k a3 a4).bind fun r33 => cond (decide (r33.1 > 0)) ((F_spec_l10Run_J35 k a1 a2 a3 a4 q_spec_l10Run r33) (decide (r33.2.2 > 0))) ((F_spec_l10Run_J35 k a1 a2 a3 a4 q_spec_l10Run r33) (false)))
def F_spec_l10Run_J19 (k : Nat) (a1 : (List (Int × (Int × Int)))) (a2 : (List Int)) (a3 : ByteArray) (a4 : Int) (q_spec_l10Run : (List (Int × (Int × Int))) → (List Int) → ByteArray → Int → Option ((List (Int × (Int × Int))) × Int × Int × Int)) (v21 : Bool) : Option ((List (Int × (Int × Int))) × Int × Int × Int) :=
  cond v21 ((q_spec_l10Run a1 a2 a3 (w64 (a4 + 1))).bind fun r23 => cond (r23.2.2.2 != 0) (some (r23.1, (-1), r23.2.2.1, r23.2.2.2)) ((F_spec_l10Apply k r23.1 (bt a3 a4) r23.2.1).bind fun r25 => cond (decide (r25 < 0)) (some (r23.1, (-1), r23.2.2.1, 7)) (some (r23.1, r25, r23.2.2.1, 0)))) (cond ((bt a3 a4) == 111) ((F_spec_l10Run_J27 k a1 a2 a3 a4 q_spec_l10Run) (true)) ((F_spec_l10Run_J27 k a1 a2 a3 a4 q_spec_l10Run) ((bt a3 a4) == 120)))
def F_spec_l10Run_B (k : Nat) (q_spec_l10Run : (List (Int × (Int × Int))) → (List Int) → ByteArray → Int → Option ((List (Int × (Int × Int))) × Int × Int × Int)) (a1 : (List (Int × (Int × Int)))) (a2 : (List Int)) (a3 : ByteArray) (a4 : Int) : Option ((List (Int × (Int × Int))) × Int × Int × Int) :=
  cond (decide (a4 ≥ (a3.size : Int))) (some (a1, (-1), (a3.size : Int), 2)) (if (0 : Int) ≤ a4 ∧ a4 < a3.size then cond ((bt a3 a4) == 64) ((F_spec_l10Num k a3 (w64 (a4 + 1))).bind fun r4 => cond (!r4.2.2) ((F_spec_l10Run_J5 k a1 a2 a4 r4) (true)) ((F_spec_l10Run_J5 k a1 a2 a4 r4) (decide (r4.1 ≥ (a2.length : Int))))) (cond ((bt a3 a4) == 110) ((F_spec_l4Name k a3 (w64 (a4 + 1))).bind fun r12 => cond (!r12.2.2) ((F_spec_l10Run_J13 k a1 a4 r12) (true)) ((F_spec_IsPublic k r12.1).bind fun r14 => (F_spec_l10Run_J13 k a1 a4 r12) (!r14))) (cond ((bt a3 a4) == 60) ((F_spec_l10Run_J19 k a1 a2 a3 a4 q_spec_l10Run) (true)) (cond ((bt a3 a4) == 62) ((F_spec_l10Run_J19 k a1 a2 a3 a4 q_spec_l10Run) (true)) ((F_spec_l10Run_J19 k a1 a2 a3 a4 q_spec_l10Run) ((bt a3 a4) == 33))))) else none)
def F_spec_l10Run (k : Nat) : Nat → (List (Int × (Int × Int))) → (List Int) → ByteArray → Int → Option ((List (Int × (Int × Int))) × Int × Int × Int)
  | 0 => fun _ _ _ _ => none
  | m + 1 => fun a1 a2 a3 a4 => F_spec_l10Run_B k (F_spec_l10Run k m) a1 a2 a3 a4
def F_spec_RecipeRun_J2 (k : Nat) (a1 : (List (Int × (Int × Int)))) (a2 : (List Int)) (a3 : ByteArray) (v4 : (List (Int × (Int × Int)))) : Option (Int × Int × Int × (List (Int × (Int × Int)))) :=
  cond (decide ((a3.size : Int) > 2000)) (some ((-1), 0, 1, v4)) ((F_spec_KnowOk k a1 a2).bind fun r7 => cond (!r7) (some ((-1), 0, 5, v4)) ((F_spec_l10Run k k a1 a2 a3 0).bind fun r9 => cond (r9.2.2.2 != 0) (some ((-1), r9.2.2.1, r9.2.2.2, v4)) (cond (decide (r9.2.2.1 < (a3.size : Int))) (some ((-1), r9.2.2.1, 6, v4)) ((F_spec_l1Copy k r9.1).bind fun r12 => some (r9.2.1, r9.2.2.1, r9.2.2.2, ([] : List (Int × (Int × Int))) ++ r9.1)))))
def F_spec_RecipeRun (k : Nat) (a1 : (List (Int × (Int × Int)))) (a2 : (List Int)) (a3 : ByteArray) : Option (Int × Int × Int × (List (Int × (Int × Int)))) :=
  (F_spec_PoolOk k a1).bind fun r1 => cond r1 ((F_spec_l1Copy k a1).bind fun r3 => (F_spec_RecipeRun_J2 k a1 a2 a3) (([] : List (Int × (Int × Int))) ++ a1)) ((F_spec_RecipeRun_J2 k a1 a2 a3) (([] : List (Int × (Int × Int)))))
def F_spec_LinkOk (k : Nat) (a1 : (List (Int × (Int × Int)))) (a2 : Int) (a3 : Int) (a4 : Int) (a5 : Bool) : Option (Bool) :=
  (F_spec_PoolOk k a1).bind fun r2 => cond r2 ((F_spec_l18Link k a1 a2 a3 a4 a5).bind fun r3 => some (r3)) (some (false))
def F_spec_LinkTake_J14 (k : Nat) (a1 : (List (Int × (Int × Int)))) (a4 : Int) (a5 : Bool) (x13 : (Int × (Int × Int))) (v16 : Bool) : Option (Int × Bool × Int × Int) :=
  cond v16 (some (a4, a5, (-1), 2)) ((F_spec_l18End k a1 x13.2.2).bind fun r18 => cond r18 (some (a4, true, (-1), 0)) (some (w64 (a4 + 1), a5, x13.2.2, 0)))
def F_spec_LinkTake_J9 (k : Nat) (a1 : (List (Int × (Int × Int)))) (a4 : Int) (a5 : Bool) (x8 : (Int × (Int × Int))) (v11 : Bool) : Option (Int × Bool × Int × Int) :=
  cond v11 (some (a4, a5, (-1), 1)) ((at? a1 x8.2.1).bind fun x13 => ((at? a1 x13.2.1).bind fun x15 => cond (!(x15.1 == 1 && (x15.2.1 == (w64 (20 + a4)) && (x15.2.2 == 0 && true)))) ((F_spec_LinkTake_J14 k a1 a4 a5 x13) (true)) ((F_spec_LinkTake_J14 k a1 a4 a5 x13) (a4 == 20))))
def F_spec_LinkTake_J2 (k : Nat) (a1 : (List (Int × (Int × Int)))) (a2 : Int) (a4 : Int) (a5 : Bool) (a6 : Int) (v5 : Bool) : Option (Int × Bool × Int × Int) :=
  cond v5 (some (a4, a5, (-1), 4)) (cond a5 (some (a4, a5, (-1), 3)) ((at? a1 a6).bind fun x8 => cond (x8.1 != 3) ((F_spec_LinkTake_J9 k a1 a4 a5 x8) (true)) (cond (x8.2.2 != a2) ((F_spec_LinkTake_J9 k a1 a4 a5 x8) (true)) ((at? a1 x8.2.1).bind fun x10 => (F_spec_LinkTake_J9 k a1 a4 a5 x8) (x10.1 != 2)))))
def F_spec_LinkTake (k : Nat) (a1 : (List (Int × (Int × Int)))) (a2 : Int) (a3 : Int) (a4 : Int) (a5 : Bool) (a6 : Int) : Option (Int × Bool × Int × Int) :=
  (F_spec_LinkOk k a1 a2 a3 a4 a5).bind fun r3 => cond (!r3) ((F_spec_LinkTake_J2 k a1 a2 a4 a5 a6) (true)) ((F_spec_l1Has k a1 a6).bind fun r4 => (F_spec_LinkTake_J2 k a1 a2 a4 a5 a6) (!r4))
def F_spec_l19Do_10db_J15 (k : Nat) (a2 : (List Int)) (a3 : Int) (a4 : Int) (a5 : Int) (a6 : Bool) (a7 : Int) (a8 : Int) (r12 : Int × Int × Int × (List (Int × (Int × Int)))) (a14 : (List Int)) (r14 : Int × Bool × Int × Int) (v16 : (List Int)) : Option ((List (Int × (Int × Int))) × (List Int) × Int × Int × Int × Bool × Int × Int × Int × Bool × (List Int) × (List Int) × Bool) :=
  some (r12.2.2.2, a2, a3, a4, a5, a6, a7, a8, r14.1, r14.2.1, a14, v16, r14.2.2.2 == 0)
def F_spec_l19Do_10db (k : Nat) (a1 : (List (Int × (Int × Int)))) (a2 : (List Int)) (a3 : Int) (a4 : Int) (a5 : Int) (a6 : Bool) (a7 : Int) (a8 : Int) (a9 : Int) (a10 : Bool) (a11 : Int) (a12 : Int) (a13 : ByteArray) (a14 : (List Int)) (a15 : (List Int)) : Option ((List (Int × (Int × Int))) × (List Int) × Int × Int × Int × Bool × Int × Int × Int × Bool × (List Int) × (List Int) × Bool) :=
  cond (a11 == 1) ((F_spec_l18Send k a1 a3 a4 a5 a6 a12).bind fun r3 => (if a14.length + [a12].length ≤ 1099511627776 then (F_spec_l19Hear k r3.1 a2 a3 a4 r3.2.1 a6 a7 a8 a9 a10 (a14 ++ [a12]) a15 r3.2.2).bind fun r4 => some (r3.1, r4.1, a3, a4, r3.2.1, a6, a7, a8, a9, a10, (a14 ++ [a12]), a15, r4.2) else none)) (cond (a11 == 3) ((F_spec_l18Close k a1 a3 a4 a5 a6).bind fun r6 => (F_spec_l19Hear k r6.1 a2 a3 a4 a5 r6.2.1 a7 a8 a9 a10 a14 a15 r6.2.2).bind fun r7 => some (r6.1, r7.1, a3, a4, a5, r6.2.1, a7, a8, a9, a10, a14, a15, r7.2)) (cond (a11 == 2) ((F_spec_l18Turn k a1 a3 a4 a5 a6).bind fun r9 => some (r9.1, a2, r9.2.1, r9.2.2.1, r9.2.2.2.1, r9.2.2.2.2.1, a7, a8, a9, a10, a14, a15, r9.2.2.2.2.2)) (cond (a11 == 5) ((F_spec_l18Turn k a1 a7 a8 a9 a10).bind fun r11 => some (r11.1, a2, a3, a4, a5, a6, r11.2.1, r11.2.2.1, r11.2.2.2.1, r11.2.2.2.2.1, a14, a15, r11.2.2.2.2.2)) ((F_spec_RecipeRun k a1 a2 a13).bind fun r12 => cond (r12.2.2.1 != 0) (some (a1, a2, a3, a4, a5, a6, a7, a8, a9, a10, a14, a15, false)) ((F_spec_LinkTake k r12.2.2.2 a7 a8 a9 a10 r12.1).bind fun r14 => cond (decide (r14.2.2.1 ≥ 0)) (if a15.length + [r14.2.2.1].length ≤ 1099511627776 then (F_spec_l19Do_10db_J15 k a2 a3 a4 a5 a6 a7 a8 r12 a14 r14) (a15 ++ [r14.2.2.1]) else none) ((F_spec_l19Do_10db_J15 k a2 a3 a4 a5 a6 a7 a8 r12 a14 r14) (a15)))))))
def F_spec_StreamDo_J11 (k : Nat) (a1 : (List (Int × (Int × Int)))) (a2 : (List Int)) (a3 : Int) (a4 : Int) (a5 : Int) (a6 : Bool) (a7 : Int) (a8 : Int) (r8 : (List (Int × (Int × Int))) × (List Int) × Int × Int × Int × Bool × Int × Int × Int × Bool × (List Int) × (List Int) × Bool) (a9 : Int) (a10 : Bool) (a11 : (List Int)) (a12 : (List Int)) (v12 : Bool) : Option (Int × Int × Int × Bool × Int × Int × Int × Bool × Bool × (List (Int × (Int × Int))) × (List Int) × (List Int) × (List Int)) :=
  cond v12 ((F_spec_l19Copy k a1 a2 a3 a4 a5 a6 a7 a8 a9 a10 a11 a12).bind fun r14 => some (a3, a4, a5, a6, a7, a8, a9, a10, false, ([] : List (Int × (Int × Int))) ++ a1, ([] : List Int) ++ a2, ([] : List Int) ++ a11, ([] : List Int) ++ a12)) ((F_spec_l19Copy k r8.1 r8.2.1 r8.2.2.1 r8.2.2.2.1 r8.2.2.2.2.1 r8.2.2.2.2.2.1 r8.2.2.2.2.2.2.1 r8.2.2.2.2.2.2.2.1 r8.2.2.2.2.2.2.2.2.1 r8.2.2.2.2.2.2.2.2.2.1 r8.2.2.2.2.2.2.2.2.2.2.1 r8.2.2.2.2.2.2.2.2.2.2.2.1).bind fun r15 => some (r8.2.2.1, r8.2.2.2.1, r8.2.2.2.2.1, r8.2.2.2.2.2.1, r8.2.2.2.2.2.2.1, r8.2.2.2.2.2.2.2.1, r8.2.2.2.2.2.2.2.2.1, r8.2.2.2.2.2.2.2.2.2.1, true, ([] : List (Int × (Int × Int))) ++ r8.1, ([] : List Int) ++ r8.2.1, ([] : List Int) ++ r8.2.2.2.2.2.2.2.2.2.2.1, ([] : List Int) ++ r8.2.2.2.2.2.2.2.2.2.2.2.1))
def F_spec_StreamDo (k : Nat) (a1 : (List (Int × (Int × Int)))) (a2 : (List Int)) (a3 : Int) (a4 : Int) (a5 : Int) (a6 : Bool) (a7 : Int) (a8 : Int) (a9 : Int) (a10 : Bool) (a11 : (List Int)) (a12 : (List Int)) (a13 : Int) (a14 : Int) (a15 : ByteArray) : Option (Int × Int × Int × Bool × Int × Int × Int × Bool × Bool × (List (Int × (Int × Int))) × (List Int) × (List Int) × (List Int)) :=
  (F_spec_StreamOk k a1 a2 a3 a4 a5 a6 a7 a8 a9 a10 a11 a12).bind fun r1 => cond (!r1) (some (0, 0, 0, false, 0, 0, 0, false, false, ([] : List (Int × (Int × Int))), ([] : List Int), ([] : List Int), ([] : List Int))) ((F_spec_l19Action k a13 a14 a15).bind fun r3 => cond (!r3) ((F_spec_l19Copy k a1 a2 a3 a4 a5 a6 a7 a8 a9 a10 a11 a12).bind fun r5 => some (a3, a4, a5, a6, a7, a8, a9, a10, false, ([] : List (Int × (Int × Int))) ++ a1, ([] : List Int) ++ a2, ([] : List Int) ++ a11, ([] : List Int) ++ a12)) ((F_spec_l19Copy k a1 a2 a3 a4 a5 a6 a7 a8 a9 a10 a11 a12).bind fun r7 => (F_spec_l19Do_10db k (([] : List (Int × (Int × Int))) ++ a1) (([] : List Int) ++ a2) a3 a4 a5 a6 a7 a8 a9 a10 a13 a14 a15 (([] : List Int) ++ a11) (([] : List Int) ++ a12)).bind fun r8 => cond (!r8.2.2.2.2.2.2.2.2.2.2.2.2) ((F_spec_StreamDo_J11 k a1 a2 a3 a4 a5 a6 a7 a8 r8 a9 a10 a11 a12) (true)) (cond (decide ((r8.1.length : Int) > 400)) ((F_spec_StreamDo_J11 k a1 a2 a3 a4 a5 a6 a7 a8 r8 a9 a10 a11 a12) (true)) (cond (decide ((r8.2.2.2.2.2.2.2.2.2.2.1.length : Int) > 60)) ((F_spec_StreamDo_J11 k a1 a2 a3 a4 a5 a6 a7 a8 r8 a9 a10 a11 a12) (true)) ((F_spec_StreamDo_J11 k a1 a2 a3 a4 a5 a6 a7 a8 r8 a9 a10 a11 a12) (decide ((r8.2.2.2.2.2.2.2.2.2.2.2.1.length : Int) > 60)))))))
def F_spec_StreamRun_J6 (k : Nat) (v28 : Int × Int × Int × Int × Bool × Int × Int × Int × Bool × (List (Int × (Int × Int))) × (List Int) × (List Int) × (List Int)) : Option (Int × Int × Int × Bool × Int × Int × Int × Bool × Int × (List (Int × (Int × Int))) × (List Int) × (List Int) × (List Int)) :=
  some (v28.2.1, v28.2.2.1, v28.2.2.2.1, v28.2.2.2.2.1, v28.2.2.2.2.2.1, v28.2.2.2.2.2.2.1, v28.2.2.2.2.2.2.2.1, v28.2.2.2.2.2.2.2.2.1, v28.1, v28.2.2.2.2.2.2.2.2.2.1, v28.2.2.2.2.2.2.2.2.2.2.1, v28.2.2.2.2.2.2.2.2.2.2.2.1, v28.2.2.2.2.2.2.2.2.2.2.2.2)
def F_spec_StreamRun_J20 (k : Nat) (s18 : Int × Int × Int × Int × Int × Bool × Int × Int × Int × Bool × (List (Int × (Int × Int))) × (List Int) × (List Int) × (List Int)) (bL7 : Int × Int × Int × Int × Int × Bool × Int × Int × Int × Bool × (List (Int × (Int × Int))) × (List Int) × (List Int) × (List Int) → Option (Int × Int × Int × Bool × Int × Int × Int × Bool × Int × (List (Int × (Int × Int))) × (List Int) × (List Int) × (List Int))) (v27 : Int × Int × Int × Int × Bool × Int × Int × Int × Bool × (List (Int × (Int × Int))) × (List Int) × (List Int) × (List Int)) : Option (Int × Int × Int × Bool × Int × Int × Int × Bool × Int × (List (Int × (Int × Int))) × (List Int) × (List Int) × (List Int)) :=
  bL7 (v27.1, w64 (s18.2.1 + 1), v27.2.1, v27.2.2.1, v27.2.2.2.1, v27.2.2.2.2.1, v27.2.2.2.2.2.1, v27.2.2.2.2.2.2.1, v27.2.2.2.2.2.2.2.1, v27.2.2.2.2.2.2.2.2.1, v27.2.2.2.2.2.2.2.2.2.1, v27.2.2.2.2.2.2.2.2.2.2.1, v27.2.2.2.2.2.2.2.2.2.2.2.1, v27.2.2.2.2.2.2.2.2.2.2.2.2)
def F_spec_StreamRun_L7 (k : Nat) (a13 : (List (Int × (Int × ByteArray)))) (eJ6 : Int × Int × Int × Int × Bool × Int × Int × Int × Bool × (List (Int × (Int × Int))) × (List Int) × (List Int) × (List Int) → Option (Int × Int × Int × Bool × Int × Int × Int × Bool × Int × (List (Int × (Int × Int))) × (List Int) × (List Int) × (List Int))) : Nat → Int × Int × Int × Int × Int × Bool × Int × Int × Int × Bool × (List (Int × (Int × Int))) × (List Int) × (List Int) × (List Int) → Option (Int × Int × Int × Bool × Int × Int × Int × Bool × Int × (List (Int × (Int × Int))) × (List Int) × (List Int) × (List Int))
  | 0, _ => none
  | nL7 + 1, s18 => cond (decide (s18.2.1 < (a13.length : Int))) ((at? a13 s18.2.1).bind fun x22 => (F_spec_StreamDo k s18.2.2.2.2.2.2.2.2.2.2.1 s18.2.2.2.2.2.2.2.2.2.2.2.1 s18.2.2.1 s18.2.2.2.1 s18.2.2.2.2.1 s18.2.2.2.2.2.1 s18.2.2.2.2.2.2.1 s18.2.2.2.2.2.2.2.1 s18.2.2.2.2.2.2.2.2.1 s18.2.2.2.2.2.2.2.2.2.1 s18.2.2.2.2.2.2.2.2.2.2.2.2.1 s18.2.2.2.2.2.2.2.2.2.2.2.2.2 x22.1 x22.2.1 x22.2.2).bind fun r23 => cond r23.2.2.2.2.2.2.2.2.1 ((F_spec_StreamRun_J20 k s18 (F_spec_StreamRun_L7 k a13 eJ6 nL7)) (w64 (s18.1 + 1), r23.1, r23.2.1, r23.2.2.1, r23.2.2.2.1, r23.2.2.2.2.1, r23.2.2.2.2.2.1, r23.2.2.2.2.2.2.1, r23.2.2.2.2.2.2.2.1, r23.2.2.2.2.2.2.2.2.2.1, r23.2.2.2.2.2.2.2.2.2.2.1, r23.2.2.2.2.2.2.2.2.2.2.2.1, r23.2.2.2.2.2.2.2.2.2.2.2.2)) ((F_spec_StreamRun_J20 k s18 (F_spec_StreamRun_L7 k a13 eJ6 nL7)) (s18.1, s18.2.2.1, s18.2.2.2.1, s18.2.2.2.2.1, s18.2.2.2.2.2.1, s18.2.2.2.2.2.2.1, s18.2.2.2.2.2.2.2.1, s18.2.2.2.2.2.2.2.2.1, s18.2.2.2.2.2.2.2.2.2.1, s18.2.2.2.2.2.2.2.2.2.2.1, s18.2.2.2.2.2.2.2.2.2.2.2.1, s18.2.2.2.2.2.2.2.2.2.2.2.2.1, s18.2.2.2.2.2.2.2.2.2.2.2.2.2))) (eJ6 (s18.1, s18.2.2.1, s18.2.2.2.1, s18.2.2.2.2.1, s18.2.2.2.2.2.1, s18.2.2.2.2.2.2.1, s18.2.2.2.2.2.2.2.1, s18.2.2.2.2.2.2.2.2.1, s18.2.2.2.2.2.2.2.2.2.1, s18.2.2.2.2.2.2.2.2.2.2.1, s18.2.2.2.2.2.2.2.2.2.2.2.1, s18.2.2.2.2.2.2.2.2.2.2.2.2.1, s18.2.2.2.2.2.2.2.2.2.2.2.2.2))
def F_spec_StreamRun_J2 (k : Nat) (a1 : (List (Int × (Int × Int)))) (a2 : (List Int)) (a3 : Int) (a4 : Int) (a5 : Int) (a6 : Bool) (a7 : Int) (a8 : Int) (a9 : Int) (a10 : Bool) (a11 : (List Int)) (a12 : (List Int)) (a13 : (List (Int × (Int × ByteArray)))) (v4 : Bool) : Option (Int × Int × Int × Bool × Int × Int × Int × Bool × Int × (List (Int × (Int × Int))) × (List Int) × (List Int) × (List Int)) :=
  cond v4 (some (a3, a4, a5, a6, a7, a8, a9, a10, 0, ([] : List (Int × (Int × Int))) ++ a1, ([] : List Int) ++ a2, ([] : List Int) ++ a11, ([] : List Int) ++ a12)) (F_spec_StreamRun_L7 k a13 (F_spec_StreamRun_J6 k) k (0, 0, a3, a4, a5, a6, a7, a8, a9, a10, ([] : List (Int × (Int × Int))) ++ a1, ([] : List Int) ++ a2, ([] : List Int) ++ a11, ([] : List Int) ++ a12))
def F_spec_StreamRun (k : Nat) (a1 : (List (Int × (Int × Int)))) (a2 : (List Int)) (a3 : Int) (a4 : Int) (a5 : Int) (a6 : Bool) (a7 : Int) (a8 : Int) (a9 : Int) (a10 : Bool) (a11 : (List Int)) (a12 : (List Int)) (a13 : (List (Int × (Int × ByteArray)))) : Option (Int × Int × Int × Bool × Int × Int × Int × Bool × Int × (List (Int × (Int × Int))) × (List Int) × (List Int) × (List Int)) :=
  (F_spec_l19Copy k a1 a2 a3 a4 a5 a6 a7 a8 a9 a10 a11 a12).bind fun r1 => (F_spec_StreamOk k a1 a2 a3 a4 a5 a6 a7 a8 a9 a10 a11 a12).bind fun r3 => cond (!r3) ((F_spec_StreamRun_J2 k a1 a2 a3 a4 a5 a6 a7 a8 a9 a10 a11 a12 a13) (true)) ((F_spec_StreamRun_J2 k a1 a2 a3 a4 a5 a6 a7 a8 a9 a10 a11 a12 a13) (decide ((a13.length : Int) > 60)))
def F_slices_Clone_impl_Node_impl_Node (k : Nat) (a1 : List (Int × (Int × Int))) : Option (List (Int × (Int × Int))) := if 0 + a1.length ≤ 1099511627776 then some a1 else none
def F_impl_copyPool (k : Nat) (a1 : (List (Int × (Int × Int)))) : Option ((List (Int × (Int × Int)))) :=
  (F_slices_Clone_impl_Node_impl_Node k a1).bind fun r1 => some (r1)
def F_slices_Clone_int_int (k : Nat) (a1 : List Int) : Option (List Int) := if 0 + a1.length ≤ 1099511627776 then some a1 else none
def F_impl_copyStream (k : Nat) (a1 : (List (Int × (Int × Int)))) (a2 : (List Int)) (a3 : Int) (a4 : Int) (a5 : Int) (a6 : Bool) (a7 : Int) (a8 : Int) (a9 : Int) (a10 : Bool) (a11 : (List Int)) (a12 : (List Int)) : Option ((List (Int × (Int × Int))) × (List Int) × (List Int) × (List Int)) :=
  (F_impl_copyPool k a1).bind fun r1 => (F_slices_Clone_int_int k a2).bind fun r2 => (F_slices_Clone_int_int k a11).bind fun r3 => (F_slices_Clone_int_int k a12).bind fun r4 => some (r1, r2, r3, r4)
def F_impl_inRange (k : Nat) (a1 : Int) (a2 : Int) (a3 : Int) : Option (Bool) :=
  cond (decide (a1 ≥ a2)) (some (decide (a1 ≤ a3))) (some (false))
def F_impl_Pool_isTerm (k : Nat) (a1 : Int) (a2 : (List (Int × (Int × Int)))) : Option (Bool) :=
  (F_impl_inRange k a1 0 (w64 ((a2.length : Int) - 1))).bind fun r1 => some (r1)
def F_impl_count_J6 (k : Nat) (v10 : Bool) : Option (Int) :=
  cond v10 (some (2)) (some ((-1)))
def F_impl_count_J3 (k : Nat) (a1 : Int) (v4 : Bool) : Option (Int) :=
  cond v4 (some (1)) (cond (a1 == 2) ((F_impl_count_J6 k) (true)) (cond (a1 == 3) ((F_impl_count_J6 k) (true)) (cond (a1 == 4) ((F_impl_count_J6 k) (true)) (cond (a1 == 6) ((F_impl_count_J6 k) (true)) ((F_impl_count_J6 k) (a1 == 8))))))
def F_impl_count (k : Nat) (a1 : Int) : Option (Int) :=
  cond (a1 == 1) (some (0)) (cond (a1 == 5) ((F_impl_count_J3 k a1) (true)) ((F_impl_count_J3 k a1) (a1 == 7)))
def F_impl_nodeOk (k : Nat) (a1 : Int) (a2 : Int) (a3 : Int) (a4 : Int) : Option (Bool) :=
  (F_impl_count k a1).bind fun r1 => cond (r1 == 0) ((F_impl_inRange k a2 0 199).bind fun r5 => cond r5 (some (a3 == 0)) (some (false))) (cond (r1 == 1) ((F_impl_inRange k a2 0 (w64 (a4 - 1))).bind fun r8 => cond r8 (some (a3 == 0)) (some (false))) (cond (r1 == 2) ((F_impl_inRange k a2 0 (w64 (a4 - 1))).bind fun r11 => cond r11 ((F_impl_inRange k a3 0 (w64 (a4 - 1))).bind fun r12 => cond r12 (cond (a1 != 8) (some (true)) (some (decide (a2 ≤ a3)))) (some (false))) (some (false))) (some (false))))
def F_impl_PoolOk_J2 (k : Nat) (v28 : Unit) : Option (Bool) :=
  some (true)
def F_impl_PoolOk_J24 (k : Nat) (s16 : Int × (List ((Int × (Int × Int)) × Int))) (x19 : (Int × (Int × Int))) (bL3 : Int × (List ((Int × (Int × Int)) × Int)) → Option (Bool)) (v26 : Bool) : Option (Bool) :=
  cond v26 (some (false)) (bL3 (w64 (s16.1 + 1), mput s16.2 (x19.1, (x19.2.1, x19.2.2)) (w64 ((mget s16.2 (x19.1, (x19.2.1, x19.2.2))) + 1))))
def F_impl_PoolOk_L3 (k : Nat) (a1 : (List (Int × (Int × Int)))) (eJ2 : Unit → Option (Bool)) : Nat → Int × (List ((Int × (Int × Int)) × Int)) → Option (Bool)
  | 0, _ => none
  | nL3 + 1, s16 => cond (decide (s16.1 < (a1.length : Int))) ((at? a1 s16.1).bind fun x19 => ((cond (decide ((mget (mput s16.2 (x19.1, (x19.2.1, x19.2.2)) (w64 ((mget s16.2 (x19.1, (x19.2.1, x19.2.2))) + 1))) (x19.1, (x19.2.1, x19.2.2))) > 1)) ((F_impl_PoolOk_J24 k s16 x19 (F_impl_PoolOk_L3 k a1 eJ2 nL3)) (true)) ((F_impl_nodeOk k x19.1 x19.2.1 x19.2.2 s16.1).bind fun r25 => (F_impl_PoolOk_J24 k s16 x19 (F_impl_PoolOk_L3 k a1 eJ2 nL3)) (!r25))))) (eJ2 ())
def F_impl_PoolOk (k : Nat) (a1 : (List (Int × (Int × Int)))) : Option (Bool) :=
  cond (decide ((a1.length : Int) > 500)) (some (false)) (F_impl_PoolOk_L3 k a1 (F_impl_PoolOk_J2 k) k (0, ([] : List ((Int × (Int × Int)) × Int))))
def F_impl_KnowOk_J1 (k : Nat) (a1 : (List (Int × (Int × Int)))) (a2 : (List Int)) (v21 : Unit) : Option (Bool) :=
  cond (decide ((a2.length : Int) ≤ 200)) ((F_impl_PoolOk k a1).bind fun r23 => some (r23)) (some (false))
def F_impl_KnowOk_J16 (k : Nat) (s12 : Int) (bL2 : Int → Option (Bool)) (v19 : Bool) : Option (Bool) :=
  cond v19 (some (false)) (bL2 (w64 (s12 + 1)))
def F_impl_KnowOk_L2 (k : Nat) (a1 : (List (Int × (Int × Int)))) (a2 : (List Int)) (eJ1 : Unit → Option (Bool)) : Nat → Int → Option (Bool)
  | 0, _ => none
  | nL2 + 1, s12 => cond (decide (s12 < (a2.length : Int))) ((at? a2 s12).bind fun x15 => (F_impl_Pool_isTerm k x15 a1).bind fun r17 => cond (!r17) ((F_impl_KnowOk_J16 k s12 (F_impl_KnowOk_L2 k a1 a2 eJ1 nL2)) (true)) (cond (decide (s12 > 0)) ((at? a2 (w64 (s12 - 1))).bind fun x18 => (F_impl_KnowOk_J16 k s12 (F_impl_KnowOk_L2 k a1 a2 eJ1 nL2)) (decide (x15 ≤ x18))) ((F_impl_KnowOk_J16 k s12 (F_impl_KnowOk_L2 k a1 a2 eJ1 nL2)) (false)))) (eJ1 ())
def F_impl_KnowOk (k : Nat) (a1 : (List (Int × (Int × Int)))) (a2 : (List Int)) : Option (Bool) :=
  F_impl_KnowOk_L2 k a1 a2 (F_impl_KnowOk_J1 k a1 a2) k (0)
def F_impl_LinkOk (k : Nat) (a1 : (List (Int × (Int × Int)))) (a2 : Int) (a3 : Int) (a4 : Int) (a5 : Bool) : Option (Bool) :=
  (F_impl_Pool_isTerm k a2 a1).bind fun r2 => cond r2 ((F_impl_inRange k a3 0 20).bind fun r3 => cond r3 ((F_impl_inRange k a4 0 20).bind fun r4 => cond r4 ((F_impl_PoolOk k a1).bind fun r5 => some (r5)) (some (false))) (some (false))) (some (false))
def F_impl_Stream_termsOk_J1 (k : Nat) (a1 : (List Int)) (v15 : Unit) : Option (Bool) :=
  some (decide ((a1.length : Int) ≤ 60))
def F_impl_Stream_termsOk_L2 (k : Nat) (a1 : (List Int)) (a2 : (List (Int × (Int × Int)))) (eJ1 : Unit → Option (Bool)) : Nat → Int → Option (Bool)
  | 0, _ => none
  | nL2 + 1, s9 => cond (decide (s9 < (a1.length : Int))) ((at? a1 s9).bind fun x12 => (F_impl_Pool_isTerm k x12 a2).bind fun r13 => cond (!r13) (some (false)) ((F_impl_Stream_termsOk_L2 k a1 a2 eJ1 nL2) (w64 (s9 + 1)))) (eJ1 ())
def F_impl_Stream_termsOk (k : Nat) (a1 : (List Int)) (a2 : (List (Int × (Int × Int)))) (a3 : (List Int)) (a4 : Int) (a5 : Int) (a6 : Int) (a7 : Bool) (a8 : Int) (a9 : Int) (a10 : Int) (a11 : Bool) (a12 : (List Int)) (a13 : (List Int)) : Option (Bool) :=
  F_impl_Stream_termsOk_L2 k a1 a2 (F_impl_Stream_termsOk_J1 k a1) k (0)
def F_impl_StreamOk (k : Nat) (a1 : (List (Int × (Int × Int)))) (a2 : (List Int)) (a3 : Int) (a4 : Int) (a5 : Int) (a6 : Bool) (a7 : Int) (a8 : Int) (a9 : Int) (a10 : Bool) (a11 : (List Int)) (a12 : (List Int)) : Option (Bool) :=
  (F_impl_KnowOk k a1 a2).bind fun r2 => cond r2 ((F_impl_LinkOk k a1 a3 a4 a5 a6).bind fun r3 => cond r3 ((F_impl_LinkOk k a1 a7 a8 a9 a10).bind fun r4 => cond r4 ((F_impl_Stream_termsOk k a11 a1 a2 a3 a4 a5 a6 a7 a8 a9 a10 a11 a12).bind fun r5 => cond r5 ((F_impl_Stream_termsOk k a12 a1 a2 a3 a4 a5 a6 a7 a8 a9 a10 a11 a12).bind fun r6 => some (r6)) (some (false))) (some (false))) (some (false))) (some (false))
def F_impl_Pool_isName (k : Nat) (a1 : Int) (a2 : Int) (a3 : (List (Int × (Int × Int)))) : Option (Bool) :=
  ((at? a3 a1).bind fun x1 => some ((x1.1 == 1 && (x1.2.1 == a2 && (x1.2.2 == 0 && true)))))
def F_impl_orEmpty (k : Nat) (a1 : (List (Int × (Int × Int)))) : Option ((List (Int × (Int × Int)))) :=
  (F_impl_PoolOk k a1).bind fun r1 => cond (!r1) (some (([] : List (Int × (Int × Int))))) ((F_impl_copyPool k a1).bind fun r3 => some (r3))
def F_slices_Index_impl_Node_impl_Node_J1 (k : Nat) (v17 : Unit) : Option (Int) :=
  some ((-1))
def F_slices_Index_impl_Node_impl_Node_L2 (k : Nat) (a1 : (List (Int × (Int × Int)))) (a2 : Int) (a3 : Int) (a4 : Int) (eJ1 : Unit → Option (Int)) : Nat → Int → Option (Int)
  | 0, _ => none
  | nL2 + 1, s10 => cond (decide (s10 < (a1.length : Int))) ((at? a1 s10).bind fun x14 => cond (a2 == x14.1 && (a3 == x14.2.1 && (a4 == x14.2.2 && true))) (some (s10)) ((F_slices_Index_impl_Node_impl_Node_L2 k a1 a2 a3 a4 eJ1 nL2) (w64 (s10 + 1)))) (eJ1 ())
def F_slices_Index_impl_Node_impl_Node (k : Nat) (a1 : (List (Int × (Int × Int)))) (a2 : Int) (a3 : Int) (a4 : Int) : Option (Int) :=
  F_slices_Index_impl_Node_impl_Node_L2 k a1 a2 a3 a4 (F_slices_Index_impl_Node_impl_Node_J1 k) k (0)
def F_impl_Pool_find_679a (k : Nat) (a1 : Int) (a2 : Int) (a3 : Int) (a4 : (List (Int × (Int × Int)))) : Option (Int) :=
  ((F_slices_Index_impl_Node_impl_Node k a4 a1 a2 a3).bind fun r2 => some (r2))
def F_impl_Pool_add_20d6_J1 (k : Nat) (a1 : Int) (a4 : (List (Int × (Int × Int)))) (v2 : Int × Int) : Option (Int × (List (Int × (Int × Int)))) :=
  ((F_impl_nodeOk k a1 v2.1 v2.2 (a4.length : Int)).bind fun r4 => cond (!r4) (some ((-1), a4)) ((F_impl_Pool_find_679a k a1 v2.1 v2.2 a4).bind fun r7 => cond (decide (r7 ≥ 0)) (some (r7, a4)) (cond (decide ((a4.length : Int) ≥ 500)) (some ((-1), a4)) (if a4.length + [(a1, (v2.1, v2.2))].length ≤ 1099511627776 then some (w64 (((a4 ++ [(a1, (v2.1, v2.2))]).length : Int) - 1), a4 ++ [(a1, (v2.1, v2.2))]) else none))))
def F_impl_Pool_add_20d6 (k : Nat) (a1 : Int) (a2 : Int) (a3 : Int) (a4 : (List (Int × (Int × Int)))) : Option (Int × (List (Int × (Int × Int)))) :=
  cond (a1 == 8) ((F_impl_Pool_add_20d6_J1 k a1 a4) (if a3 < a2 then a3 else a2, if a2 < a3 then a3 else a2)) ((F_impl_Pool_add_20d6_J1 k a1 a4) (a2, a3))
def F_impl_Pool_name_3ca5 (k : Nat) (a1 : Int) (a2 : (List (Int × (Int × Int)))) : Option (Int × (List (Int × (Int × Int)))) :=
  (F_impl_Pool_add_20d6 k 1 a1 0 a2).bind fun r1 => some (r1.1, r1.2)
def F_impl_Link_seal_659e (k : Nat) (a1 : Int) (a2 : Int) (a3 : Int) (a4 : Int) (a5 : Bool) (a6 : (List (Int × (Int × Int)))) : Option (Int × (List (Int × (Int × Int)))) :=
  ((F_impl_Pool_name_3ca5 k (w64 (20 + a4)) a6).bind fun r2 => (F_impl_Pool_add_20d6 k 2 r2.1 a1 r2.2).bind fun r3 => (F_impl_Pool_add_20d6 k 3 r3.1 a2 r3.2).bind fun r4 => some (r4.1, r4.2))
def F_impl_LinkSend_J1 (k : Nat) (a1 : (List (Int × (Int × Int)))) (a2 : Int) (a3 : Int) (a4 : Int) (a5 : Bool) (a6 : Int) (v5 : Bool) : Option (Int × Int × (List (Int × (Int × Int)))) :=
  cond v5 ((F_impl_orEmpty k a1).bind fun r8 => some (a4, (-1), r8)) ((F_impl_copyPool k a1).bind fun r10 => (F_impl_Link_seal_659e k a6 a2 a3 a4 a5 r10).bind fun r11 => cond (decide (r11.1 < 0)) ((F_impl_copyPool k a1).bind fun r14 => some (a4, (-1), r14)) (some (w64 (a4 + 1), r11.1, r11.2)))
def F_impl_LinkSend (k : Nat) (a1 : (List (Int × (Int × Int)))) (a2 : Int) (a3 : Int) (a4 : Int) (a5 : Bool) (a6 : Int) : Option (Int × Int × (List (Int × (Int × Int)))) :=
  (F_impl_Pool_isTerm k a6 a1).bind fun r2 => cond (!r2) ((F_impl_LinkSend_J1 k a1 a2 a3 a4 a5 a6) (true)) (cond a5 ((F_impl_LinkSend_J1 k a1 a2 a3 a4 a5 a6) (true)) (cond (a4 == 20) ((F_impl_LinkSend_J1 k a1 a2 a3 a4 a5 a6) (true)) ((F_impl_LinkOk k a1 a2 a3 a4 a5).bind fun r3 => cond (!r3) ((F_impl_LinkSend_J1 k a1 a2 a3 a4 a5 a6) (true)) ((F_impl_Pool_isName k a6 8 a1).bind fun r4 => (F_impl_LinkSend_J1 k a1 a2 a3 a4 a5 a6) (r4)))))
def F_cmp_isNaN_int (k : Nat) (a1 : Int) : Option (Unit) :=
  some ()
def F_cmp_Less_int (k : Nat) (a1 : Int) (a2 : Int) : Option (Bool) :=
  (F_cmp_isNaN_int k a1).bind fun r2 => cond (a1 != a1) ((F_cmp_isNaN_int k a2).bind fun r3 => cond (!(a2 != a2)) (some (true)) (some (decide (a1 < a2)))) (some (decide (a1 < a2)))
def F_slices_isNaN_int (k : Nat) (a1 : Int) : Option (Unit) :=
  some ()
def F_slices_BinarySearch_int_int_J1 (k : Nat) (a1 : (List Int)) (a2 : Int) (v15 : Int) : Option (Int × Bool) :=
  cond (decide (v15 < (a1.length : Int))) ((at? a1 v15).bind fun x17 => cond (x17 == a2) (some (v15, true)) ((at? a1 v15).bind fun x18 => (F_slices_isNaN_int k x18).bind fun r19 => cond (x18 != x18) ((F_slices_isNaN_int k a2).bind fun r20 => some (v15, a2 != a2)) (some (v15, false)))) (some (v15, false))
def F_slices_BinarySearch_int_int_L2 (k : Nat) (a1 : (List Int)) (a2 : Int) (eJ1 : Int → Option (Int × Bool)) : Nat → Int × Int → Option (Int × Bool)
  | 0, _ => none
  | nL2 + 1, s9 => cond (decide (s9.1 < s9.2)) ((at? a1 (IntKind.i64.wrap (Int.fdiv (IntKind.u64.wrap (w64 (s9.1 + s9.2))) 2))).bind fun x12 => (F_cmp_Less_int k x12 a2).bind fun r13 => cond r13 ((F_slices_BinarySearch_int_int_L2 k a1 a2 eJ1 nL2) (w64 ((IntKind.i64.wrap (Int.fdiv (IntKind.u64.wrap (w64 (s9.1 + s9.2))) 2)) + 1), s9.2)) ((F_slices_BinarySearch_int_int_L2 k a1 a2 eJ1 nL2) (s9.1, IntKind.i64.wrap (Int.fdiv (IntKind.u64.wrap (w64 (s9.1 + s9.2))) 2)))) (eJ1 (s9.1))
def F_slices_BinarySearch_int_int (k : Nat) (a1 : (List Int)) (a2 : Int) : Option (Int × Bool) :=
  F_slices_BinarySearch_int_int_L2 k a1 a2 (F_slices_BinarySearch_int_int_J1 k a1 a2) k (0, (a1.length : Int))
def F_impl_knowPut_f72a (k : Nat) (a1 : Int) (a2 : (List Int)) : Option (Bool × (List Int)) :=
  (F_slices_BinarySearch_int_int k a2 a1).bind fun r1 => cond r1.2 (some (true, a2)) (cond (decide ((a2.length : Int) ≥ 200)) (some (false, a2)) ((F_slices_Insert_int k r1.1 a2 [a1]).bind fun r4 => some (true, r4)))
def F_impl_Stream_heard_65c4 (k : Nat) (a1 : Int) (a2 : Int) (a3 : Int) (a4 : Int) (a5 : Bool) (a6 : Int) (a7 : Int) (a8 : Int) (a9 : Bool) (a10 : (List (Int × (Int × Int)))) (a11 : (List Int)) (a12 : (List Int)) (a13 : (List Int)) : Option (Bool × (List Int)) :=
  cond (decide (a1 < 0)) (some (false, a11)) ((F_impl_knowPut_f72a k a1 a11).bind fun r2 => some (r2.1, r2.2))
def F_impl_Stream_send_65c4 (k : Nat) (a1 : Int) (a2 : Int) (a3 : Int) (a4 : Int) (a5 : Bool) (a6 : Int) (a7 : Int) (a8 : Int) (a9 : Bool) (a10 : (List (Int × (Int × Int)))) (a11 : (List Int)) (a12 : (List Int)) (a13 : (List Int)) : Option (Bool × Int × (List (Int × (Int × Int))) × (List Int) × (List Int)) :=
  ((F_impl_LinkSend k a10 a2 a3 a4 a5 a1).bind fun r2 => (F_impl_Stream_heard_65c4 k r2.2.1 a2 a3 r2.1 a5 a6 a7 a8 a9 r2.2.2 a11 a12 a13).bind fun r5 => cond (!r5.1) (some (false, r2.1, r2.2.2, r5.2, a12)) (if a12.length + [a1].length ≤ 1099511627776 then some (true, r2.1, r2.2.2, r5.2, a12 ++ [a1]) else none))
def F_impl_reader_fail_8d05_J1 (k : Nat) (v2 : Int × Int) : Option (Int × Int) :=
  some (v2.1, v2.2)
def F_impl_reader_fail_8d05 (k : Nat) (a1 : Int) (a2 : Int) (a3 : ByteArray) (a4 : Int) (a5 : Int) (a6 : ByteArray) (a7 : (List Int)) (a8 : (List (Int × (Int × Int)))) : Option (Int × Int) :=
  cond (a5 == 0) ((F_impl_reader_fail_8d05_J1 k) (a2, a1)) ((F_impl_reader_fail_8d05_J1 k) (a4, a5))
def F_impl_reader_peek_0f1e (k : Nat) (a1 : ByteArray) (a2 : Int) (a3 : Int) (a4 : ByteArray) (a5 : (List Int)) (a6 : (List (Int × (Int × Int)))) : Option (Int) :=
  cond (decide (a2 ≥ (a1.size : Int))) (some (0)) (if (0 : Int) ≤ a2 ∧ a2 < a1.size then some (bt a1 a2) else none)
def F_impl_isOneOf_J1 (k : Nat) (v11 : Unit) : Option (Bool) :=
  some (false)
def F_impl_isOneOf_L2 (k : Nat) (a1 : Int) (a2 : ByteArray) (eJ1 : Unit → Option (Bool)) : Nat → Int → Option (Bool)
  | 0, _ => none
  | nL2 + 1, s7 => cond (decide (s7 < (a2.size : Int))) (if (0 : Int) ≤ s7 ∧ s7 < a2.size then cond ((bt a2 s7) == a1) (some (true)) ((F_impl_isOneOf_L2 k a1 a2 eJ1 nL2) (w64 (s7 + 1))) else none) (eJ1 ())
def F_impl_isOneOf (k : Nat) (a1 : Int) (a2 : ByteArray) : Option (Bool) :=
  F_impl_isOneOf_L2 k a1 a2 (F_impl_isOneOf_J1 k) k (0)
def F_impl_isFigure (k : Nat) (a1 : Int) : Option (Bool) :=
  cond (decide (a1 ≥ 48)) (some (decide (a1 ≤ 57))) (some (false))
def F_impl_reader_figures_51fc_J17 (k : Nat) (v13 : Int) (r16 : Int × Bool) (v19 : Bool) : Option (Int × Int) :=
  cond v19 (some ((-1), v13)) (some (r16.1, v13))
def F_impl_reader_figures_51fc_J1 (k : Nat) (a1 : Int) (a2 : ByteArray) (a3 : Int) (v13 : Int) : Option (Int × Int) :=
  (if (0 : Int) ≤ a3 ∧ (a3 : Int) ≤ v13 ∧ v13 ≤ (a2.size : Int) then (F_strconv_Atoi k (a2.extract (Int.toNat a3) (Int.toNat v13))).bind fun r16 => cond r16.2 ((F_impl_reader_figures_51fc_J17 k v13 r16) (true)) (cond (decide (((a2.extract (Int.toNat a3) (Int.toNat v13)).size : Int) > a1)) ((F_impl_reader_figures_51fc_J17 k v13 r16) (true)) ((F_strconv_Itoa k r16.1).bind fun r18 => (F_impl_reader_figures_51fc_J17 k v13 r16) (!(r18.toList == (a2.extract (Int.toNat a3) (Int.toNat v13)).toList)))) else none)
def F_impl_reader_figures_51fc_L2 (k : Nat) (a2 : ByteArray) (a4 : Int) (a5 : ByteArray) (a6 : (List Int)) (a7 : (List (Int × (Int × Int)))) (eJ1 : Int → Option (Int × Int)) : Nat → Int → Option (Int × Int)
  | 0, _ => none
  | nL2 + 1, s8 => (F_impl_reader_peek_0f1e k a2 s8 a4 a5 a6 a7).bind fun r9 => (F_impl_isFigure k r9).bind fun r10 => cond r10 ((F_impl_reader_figures_51fc_L2 k a2 a4 a5 a6 a7 eJ1 nL2) (w64 (s8 + 1))) (eJ1 (s8))
def F_impl_reader_figures_51fc (k : Nat) (a1 : Int) (a2 : ByteArray) (a3 : Int) (a4 : Int) (a5 : ByteArray) (a6 : (List Int)) (a7 : (List (Int × (Int × Int)))) : Option (Int × Int) :=
  F_impl_reader_figures_51fc_L2 k a2 a4 a5 a6 a7 (F_impl_reader_figures_51fc_J1 k a1 a2 a3) k (a3)
def F_impl_reader_place_ba6e (k : Nat) (a1 : (List Int)) (a2 : ByteArray) (a3 : Int) (a4 : Int) (a5 : ByteArray) (a6 : (List Int)) (a7 : (List (Int × (Int × Int)))) : Option (Int × Int × Int) :=
  (F_impl_reader_figures_51fc k 4 a2 (w64 (a3 + 1)) a4 a5 a6 a7).bind fun r1 => (F_impl_inRange k r1.1 0 (w64 ((a1.length : Int) - 1))).bind fun r2 => cond (!r2) ((F_impl_reader_fail_8d05 k 4 a3 a2 r1.2 a4 a5 a6 a7).bind fun r4 => some ((-1), r4.1, r4.2)) ((at? a1 r1.1).bind fun x5 => some (x5, r1.2, a4))
def F_impl_reader_number_51fc (k : Nat) (a1 : Int) (a2 : ByteArray) (a3 : Int) (a4 : Int) (a5 : ByteArray) (a6 : (List Int)) (a7 : (List (Int × (Int × Int)))) : Option (Int × Int × Int) :=
  (F_impl_reader_figures_51fc k 9 a2 a3 a4 a5 a6 a7).bind fun r1 => (F_impl_inRange k r1.1 0 199).bind fun r2 => cond (!r2) ((F_impl_reader_fail_8d05 k 4 a1 a2 r1.2 a4 a5 a6 a7).bind fun r4 => some ((-1), r4.1, r4.2)) (some (r1.1, r1.2, a4))
def F_impl_IsPublic (k : Nat) (a1 : Int) : Option (Bool) :=
  (F_impl_inRange k a1 0 49).bind fun r1 => some (r1)
def F_impl_reader_orFull_51fc (k : Nat) (a1 : Int) (a2 : ByteArray) (a3 : Int) (a4 : Int) (a5 : ByteArray) (a6 : (List Int)) (a7 : (List (Int × (Int × Int)))) : Option (Int × Int × Int) :=
  cond (decide (a1 < 0)) ((F_impl_reader_fail_8d05 k 5 a3 a2 a3 a4 a5 a6 a7).bind fun r2 => some ((-1), r2.1, r2.2)) (some (a1, a3, a4))
def F_impl_reader_public_20dc (k : Nat) (a1 : ByteArray) (a2 : Int) (a3 : Int) (a4 : ByteArray) (a5 : (List Int)) (a6 : (List (Int × (Int × Int)))) : Option (Int × Int × Int × (List (Int × (Int × Int)))) :=
  (F_impl_reader_number_51fc k a2 a1 (w64 (a2 + 1)) a3 a4 a5 a6).bind fun r1 => cond (r1.2.2 != 0) (some ((-1), r1.2.1, r1.2.2, a6)) ((F_impl_IsPublic k r1.1).bind fun r4 => cond (!r4) ((F_impl_reader_fail_8d05 k 4 a2 a1 r1.2.1 r1.2.2 a4 a5 a6).bind fun r6 => some ((-1), r6.1, r6.2, a6)) ((F_impl_Pool_name_3ca5 k r1.1 a6).bind fun r7 => (F_impl_reader_orFull_51fc k r7.1 a1 r1.2.1 r1.2.2 a4 a5 r7.2).bind fun r8 => some (r8.1, r8.2.1, r8.2.2, r7.2)))
def F_impl_RecipeRun_1_c681 (k : Nat) (a1 : Int) (a2 : ByteArray) (a3 : Int) (a4 : Int) (a5 : ByteArray) (a6 : (List Int)) (a7 : (List (Int × (Int × Int)))) : Option (Int × Int × Int × (List (Int × (Int × Int)))) :=
  cond (a1 == 64) ((F_impl_reader_place_ba6e k a6 a2 a3 a4 a5 a6 a7).bind fun r2 => some (r2.1, r2.2.1, r2.2.2, a7)) ((F_impl_reader_public_20dc k a2 a3 a4 a5 a6 a7).bind fun r3 => some (r3.1, r3.2.1, r3.2.2.1, r3.2.2.2))
def F_impl_closing (k : Nat) (a1 : Int) : Option (Int) :=
  cond (a1 == 123) (some (125)) (cond (a1 == 91) (some (93)) (some (41)))
def F_impl_reader_take_32e8 (k : Nat) (a1 : Int) (a2 : ByteArray) (a3 : Int) (a4 : Int) (a5 : ByteArray) (a6 : (List Int)) (a7 : (List (Int × (Int × Int)))) : Option (Int × Int) :=
  cond (a4 != 0) (some (a3, a4)) (cond (decide (a3 ≥ (a2.size : Int))) ((F_impl_reader_fail_8d05 k 2 (a2.size : Int) a2 a3 a4 a5 a6 a7).bind fun r5 => some (r5.1, r5.2)) (if (0 : Int) ≤ a3 ∧ a3 < a2.size then cond ((bt a2 a3) != a1) ((F_impl_reader_fail_8d05 k 3 a3 a2 a3 a4 a5 a6 a7).bind fun r9 => some (r9.1, r9.2)) (some (w64 (a3 + 1), a4)) else none))
def F_impl_reader_two_32e8 (k : Nat) (q_impl_reader_read_0f1e : ByteArray → Int → Int → ByteArray → (List Int) → (List (Int × (Int × Int))) → Option (Int × Int × Int × (List (Int × (Int × Int))))) (a1 : Int) (a2 : ByteArray) (a3 : Int) (a4 : Int) (a5 : ByteArray) (a6 : (List Int)) (a7 : (List (Int × (Int × Int)))) : Option (Int × Int × (List Int) × (List (Int × (Int × Int)))) :=
  (q_impl_reader_read_0f1e a2 a3 a4 a5 a6 a7).bind fun r1 => (F_impl_reader_take_32e8 k 44 a2 r1.2.1 r1.2.2.1 a5 a6 r1.2.2.2).bind fun r2 => (q_impl_reader_read_0f1e a2 r2.1 r2.2 a5 a6 r1.2.2.2).bind fun r3 => (F_impl_reader_take_32e8 k a1 a2 r3.2.1 r3.2.2.1 a5 a6 r3.2.2.2).bind fun r4 => some (r4.1, r4.2, [r1.1, r3.1], r3.2.2.2)
def F_impl_Pool_isTerm_3ca5 (k : Nat) (a1 : Int) (a2 : (List (Int × (Int × Int)))) : Option (Bool) :=
  (F_impl_inRange k a1 0 (w64 ((a2.length : Int) - 1))).bind fun r1 => some (r1)
def F_impl_Pool_raise_7f23_J1 (k : Nat) (a1 : Int) (a2 : Int) (a3 : (List (Int × (Int × Int)))) (v5 : Bool) : Option (Int × (List (Int × (Int × Int)))) :=
  cond v5 (some ((-1), a3)) ((at? a3 a1).bind fun x7 => (F_impl_Pool_add_20d6 k 8 a2 x7.2.1 a3).bind fun r8 => some (r8.1, r8.2))
def F_impl_Pool_raise_7f23 (k : Nat) (a1 : Int) (a2 : Int) (a3 : (List (Int × (Int × Int)))) : Option (Int × (List (Int × (Int × Int)))) :=
  (F_impl_Pool_isTerm_3ca5 k a1 a3).bind fun r2 => cond (!r2) ((F_impl_Pool_raise_7f23_J1 k a1 a2 a3) (true)) ((F_impl_Pool_isTerm_3ca5 k a2 a3).bind fun r3 => cond (!r3) ((F_impl_Pool_raise_7f23_J1 k a1 a2 a3) (true)) ((at? a3 a1).bind fun x4 => (F_impl_Pool_raise_7f23_J1 k a1 a2 a3) (x4.1 != 7)))
def F_impl_reader_opened_50c8_J20 (k : Nat) (a2 : (List Int)) (a3 : ByteArray) (a4 : Int) (a5 : Int) (a6 : ByteArray) (a7 : (List Int)) (a8 : (List (Int × (Int × Int)))) (v23 : Bool) : Option (Int × Int × Int × (List (Int × (Int × Int)))) :=
  cond v23 ((at? a2 1).bind fun x26 => (at? a2 0).bind fun x27 => (F_impl_Pool_raise_7f23 k x26 x27 a8).bind fun r28 => (F_impl_reader_orFull_51fc k r28.1 a3 a4 a5 a6 a7 r28.2).bind fun r29 => some (r29.1, r29.2.1, r29.2.2, r28.2)) ((F_impl_reader_fail_8d05 k 7 a4 a3 a4 a5 a6 a7 a8).bind fun r34 => some ((-1), r34.1, r34.2, a8))
def F_impl_reader_opened_50c8_J16 (k : Nat) (a1 : Int) (a2 : (List Int)) (a3 : ByteArray) (x3 : (Int × (Int × Int))) (a4 : Int) (a5 : Int) (a6 : ByteArray) (a7 : (List Int)) (a8 : (List (Int × (Int × Int)))) (v18 : Bool) : Option (Int × Int × Int × (List (Int × (Int × Int)))) :=
  cond v18 (some (x3.2.1, a4, a5, a8)) (cond (a1 == 120) ((at? a2 1).bind fun x21 => (at? a8 x21).bind fun x22 => (F_impl_reader_opened_50c8_J20 k a2 a3 a4 a5 a6 a7 a8) (x22.1 == 7)) ((F_impl_reader_opened_50c8_J20 k a2 a3 a4 a5 a6 a7 a8) (false)))
def F_impl_reader_opened_50c8_J13 (k : Nat) (a1 : Int) (a2 : (List Int)) (a3 : ByteArray) (x3 : (Int × (Int × Int))) (a4 : Int) (a5 : Int) (a6 : ByteArray) (a7 : (List Int)) (a8 : (List (Int × (Int × Int)))) (v14 : Bool) : Option (Int × Int × Int × (List (Int × (Int × Int)))) :=
  cond v14 (some (x3.2.1, a4, a5, a8)) (cond (a1 == 111) (cond (x3.1 == 3) ((at? a2 1).bind fun x17 => (F_impl_reader_opened_50c8_J16 k a1 a2 a3 x3 a4 a5 a6 a7 a8) (x3.2.2 == x17)) ((F_impl_reader_opened_50c8_J16 k a1 a2 a3 x3 a4 a5 a6 a7 a8) (false))) ((F_impl_reader_opened_50c8_J16 k a1 a2 a3 x3 a4 a5 a6 a7 a8) (false)))
def F_impl_reader_opened_50c8_J10 (k : Nat) (a1 : Int) (a2 : (List Int)) (a3 : ByteArray) (x3 : (Int × (Int × Int))) (a4 : Int) (a5 : Int) (a6 : ByteArray) (a7 : (List Int)) (a8 : (List (Int × (Int × Int)))) (v11 : Bool) : Option (Int × Int × Int × (List (Int × (Int × Int)))) :=
  cond v11 (some (x3.2.2, a4, a5, a8)) (cond (a1 == 33) ((F_impl_reader_opened_50c8_J13 k a1 a2 a3 x3 a4 a5 a6 a7 a8) (x3.1 == 4)) ((F_impl_reader_opened_50c8_J13 k a1 a2 a3 x3 a4 a5 a6 a7 a8) (false)))
def F_impl_reader_opened_50c8_J7 (k : Nat) (a1 : Int) (a2 : (List Int)) (a3 : ByteArray) (x3 : (Int × (Int × Int))) (a4 : Int) (a5 : Int) (a6 : ByteArray) (a7 : (List Int)) (a8 : (List (Int × (Int × Int)))) (v8 : Bool) : Option (Int × Int × Int × (List (Int × (Int × Int)))) :=
  cond v8 (some (x3.2.1, a4, a5, a8)) (cond (a1 == 62) ((F_impl_reader_opened_50c8_J10 k a1 a2 a3 x3 a4 a5 a6 a7 a8) (x3.1 == 2)) ((F_impl_reader_opened_50c8_J10 k a1 a2 a3 x3 a4 a5 a6 a7 a8) (false)))
def F_impl_reader_opened_50c8 (k : Nat) (a1 : Int) (a2 : (List Int)) (a3 : ByteArray) (a4 : Int) (a5 : Int) (a6 : ByteArray) (a7 : (List Int)) (a8 : (List (Int × (Int × Int)))) : Option (Int × Int × Int × (List (Int × (Int × Int)))) :=
  ((at? a2 0).bind fun x2 => (at? a8 x2).bind fun x3 => cond (a1 == 60) ((F_impl_reader_opened_50c8_J7 k a1 a2 a3 x3 a4 a5 a6 a7 a8) (x3.1 == 2)) ((F_impl_reader_opened_50c8_J7 k a1 a2 a3 x3 a4 a5 a6 a7 a8) (false)))
def F_impl_kindOf (k : Nat) (a1 : Int) : Option (Int) :=
  cond (a1 == 40) (some (2)) (cond (a1 == 123) (some (3)) (cond (a1 == 91) (some (4)) (cond (a1 == 35) (some (5)) (cond (a1 == 107) (some (6)) (cond (a1 == 94) (some (7)) (some (8)))))))
def F_impl_reader_added_50c8_J1 (k : Nat) (a1 : Int) (a2 : (List Int)) (a3 : ByteArray) (a4 : Int) (a5 : Int) (a6 : ByteArray) (a7 : (List Int)) (a8 : (List (Int × (Int × Int)))) (v3 : Int) : Option (Int × Int × Int × (List (Int × (Int × Int)))) :=
  ((F_impl_kindOf k a1).bind fun r6 => (at? a2 0).bind fun x5 => (F_impl_Pool_add_20d6 k r6 x5 v3 a8).bind fun r7 => (F_impl_reader_orFull_51fc k r7.1 a3 a4 a5 a6 a7 r7.2).bind fun r8 => some (r8.1, r8.2.1, r8.2.2, r7.2))
def F_impl_reader_added_50c8 (k : Nat) (a1 : Int) (a2 : (List Int)) (a3 : ByteArray) (a4 : Int) (a5 : Int) (a6 : ByteArray) (a7 : (List Int)) (a8 : (List (Int × (Int × Int)))) : Option (Int × Int × Int × (List (Int × (Int × Int)))) :=
  cond (decide ((a2.length : Int) > 1)) ((at? a2 1).bind fun x2 => (F_impl_reader_added_50c8_J1 k a1 a2 a3 a4 a5 a6 a7 a8) (x2)) ((F_impl_reader_added_50c8_J1 k a1 a2 a3 a4 a5 a6 a7 a8) (0))
def F_impl_RecipeRun_2_bfc8 (k : Nat) (a1 : Int) (a2 : (List Int)) (a3 : ByteArray) (a4 : Int) (a5 : Int) (a6 : ByteArray) (a7 : (List Int)) (a8 : (List (Int × (Int × Int)))) : Option (Int × Int × Int × (List (Int × (Int × Int)))) :=
  (F_impl_isOneOf k a1 (⟨#[64, 60, 62, 33, 111, 120]⟩ : ByteArray)).bind fun r1 => cond r1 ((F_impl_reader_opened_50c8 k a1 a2 a3 a4 a5 a6 a7 a8).bind fun r3 => some (r3.1, r3.2.1, r3.2.2.1, r3.2.2.2)) ((F_impl_reader_added_50c8 k a1 a2 a3 a4 a5 a6 a7 a8).bind fun r4 => some (r4.1, r4.2.1, r4.2.2.1, r4.2.2.2))
def F_impl_reader_read_0f1e_J6 (k : Nat) (a1 : ByteArray) (r2 : Int) (a4 : ByteArray) (a5 : (List Int)) (v33 : Int × Int × (List Int) × (List (Int × (Int × Int)))) : Option (Int × Int × Int × (List (Int × (Int × Int)))) :=
  cond (v33.2.1 != 0) (some ((-1), v33.1, v33.2.1, v33.2.2.2)) ((F_impl_RecipeRun_2_bfc8 k r2 v33.2.2.1 a1 v33.1 v33.2.1 a4 a5 v33.2.2.2).bind fun r35 => some (r35.1, r35.2.1, r35.2.2.1, r35.2.2.2))
def F_impl_reader_read_0f1e_J24 (k : Nat) (a1 : ByteArray) (q_impl_reader_read_0f1e : ByteArray → Int → Int → ByteArray → (List Int) → (List (Int × (Int × Int))) → Option (Int × Int × Int × (List (Int × (Int × Int))))) (a2 : Int) (r2 : Int) (a3 : Int) (a4 : ByteArray) (a5 : (List Int)) (a6 : (List (Int × (Int × Int)))) (v28 : Bool) : Option (Int × Int × Int × (List (Int × (Int × Int)))) :=
  cond v28 ((F_impl_reader_take_32e8 k 40 a1 (w64 (a2 + 1)) a3 a4 a5 a6).bind fun r30 => (F_impl_reader_two_32e8 k q_impl_reader_read_0f1e 41 a1 r30.1 r30.2 a4 a5 a6).bind fun r31 => (F_impl_reader_read_0f1e_J6 k a1 r2 a4 a5) (r31.1, r31.2.1, r31.2.2.1, r31.2.2.2)) ((F_impl_reader_fail_8d05 k 3 a2 a1 a2 a3 a4 a5 a6).bind fun r32 => some ((-1), r32.1, r32.2, a6))
def F_impl_reader_read_0f1e_J17 (k : Nat) (a1 : ByteArray) (q_impl_reader_read_0f1e : ByteArray → Int → Int → ByteArray → (List Int) → (List (Int × (Int × Int))) → Option (Int × Int × Int × (List (Int × (Int × Int))))) (a2 : Int) (r2 : Int) (a3 : Int) (a4 : ByteArray) (a5 : (List Int)) (a6 : (List (Int × (Int × Int)))) (v21 : Bool) : Option (Int × Int × Int × (List (Int × (Int × Int)))) :=
  cond v21 ((q_impl_reader_read_0f1e a1 (w64 (a2 + 1)) a3 a4 a5 a6).bind fun r23 => (F_impl_reader_read_0f1e_J6 k a1 r2 a4 a5) (r23.2.1, r23.2.2.1, [r23.1], r23.2.2.2)) ((F_impl_isOneOf k r2 (⟨#[107, 42]⟩ : ByteArray)).bind fun r25 => cond r25 ((F_impl_reader_read_0f1e_J24 k a1 q_impl_reader_read_0f1e a2 r2 a3 a4 a5 a6) (true)) ((F_impl_isOneOf k r2 (⟨#[111, 120]⟩ : ByteArray)).bind fun r26 => cond r26 ((F_impl_isOneOf k r2 a4).bind fun r27 => (F_impl_reader_read_0f1e_J24 k a1 q_impl_reader_read_0f1e a2 r2 a3 a4 a5 a6) (r27)) ((F_impl_reader_read_0f1e_J24 k a1 q_impl_reader_read_0f1e a2 r2 a3 a4 a5 a6) (false))))
def F_impl_reader_read_0f1e_J7 (k : Nat) (a1 : ByteArray) (q_impl_reader_read_0f1e : ByteArray → Int → Int → ByteArray → (List Int) → (List (Int × (Int × Int))) → Option (Int × Int × Int × (List (Int × (Int × Int))))) (a2 : Int) (r2 : Int) (a3 : Int) (a4 : ByteArray) (a5 : (List Int)) (a6 : (List (Int × (Int × Int)))) (v10 : Bool) : Option (Int × Int × Int × (List (Int × (Int × Int)))) :=
  cond v10 ((F_impl_RecipeRun_1_c681 k r2 a1 a2 a3 a4 a5 a6).bind fun r12 => some (r12.1, r12.2.1, r12.2.2.1, r12.2.2.2)) ((F_impl_isOneOf k r2 (⟨#[40, 123, 91]⟩ : ByteArray)).bind fun r13 => cond r13 ((F_impl_closing k r2).bind fun r15 => (F_impl_reader_two_32e8 k q_impl_reader_read_0f1e r15 a1 (w64 (a2 + 1)) a3 a4 a5 a6).bind fun r16 => (F_impl_reader_read_0f1e_J6 k a1 r2 a4 a5) (r16.1, r16.2.1, r16.2.2.1, r16.2.2.2)) ((F_impl_isOneOf k r2 (⟨#[35, 94]⟩ : ByteArray)).bind fun r18 => cond r18 ((F_impl_reader_read_0f1e_J17 k a1 q_impl_reader_read_0f1e a2 r2 a3 a4 a5 a6) (true)) ((F_impl_isOneOf k r2 (⟨#[60, 62, 33]⟩ : ByteArray)).bind fun r19 => cond r19 ((F_impl_isOneOf k r2 a4).bind fun r20 => (F_impl_reader_read_0f1e_J17 k a1 q_impl_reader_read_0f1e a2 r2 a3 a4 a5 a6) (r20)) ((F_impl_reader_read_0f1e_J17 k a1 q_impl_reader_read_0f1e a2 r2 a3 a4 a5 a6) (false)))))
def F_impl_reader_read_0f1e_B (k : Nat) (q_impl_reader_read_0f1e : ByteArray → Int → Int → ByteArray → (List Int) → (List (Int × (Int × Int))) → Option (Int × Int × Int × (List (Int × (Int × Int))))) (a1 : ByteArray) (a2 : Int) (a3 : Int) (a4 : ByteArray) (a5 : (List Int)) (a6 : (List (Int × (Int × Int)))) : Option (Int × Int × Int × (List (Int × (Int × Int)))) :=
  cond (a3 != 0) (some ((-1), a2, a3, a6)) ((F_impl_reader_peek_0f1e k a1 a2 a3 a4 a5 a6).bind fun r2 => cond (decide (a2 ≥ (a1.size : Int))) ((F_impl_reader_fail_8d05 k 2 (a1.size : Int) a1 a2 a3 a4 a5 a6).bind fun r5 => some ((-1), r5.1, r5.2, a6)) (cond (r2 == 110) ((F_impl_reader_read_0f1e_J7 k a1 q_impl_reader_read_0f1e a2 r2 a3 a4 a5 a6) (true)) ((F_impl_isOneOf k r2 (⟨#[64, 36, 63]⟩ : ByteArray)).bind fun r8 => cond r8 ((F_impl_isOneOf k r2 a4).bind fun r9 => (F_impl_reader_read_0f1e_J7 k a1 q_impl_reader_read_0f1e a2 r2 a3 a4 a5 a6) (r9)) ((F_impl_reader_read_0f1e_J7 k a1 q_impl_reader_read_0f1e a2 r2 a3 a4 a5 a6) (false)))))
def F_impl_reader_read_0f1e (k : Nat) : Nat → ByteArray → Int → Int → ByteArray → (List Int) → (List (Int × (Int × Int))) → Option (Int × Int × Int × (List (Int × (Int × Int))))
  | 0 => fun _ _ _ _ _ _ => none
  | m + 1 => fun a1 a2 a3 a4 a5 a6 => F_impl_reader_read_0f1e_B k (F_impl_reader_read_0f1e k m) a1 a2 a3 a4 a5 a6
def F_impl_reader_all_51fc_J4 (k : Nat) (a2 : ByteArray) (r3 : Int × Int × Int × (List (Int × (Int × Int)))) (a5 : ByteArray) (a6 : (List Int)) (v5 : Bool) : Option (Int × Int × Int × (List (Int × (Int × Int)))) :=
  cond v5 ((F_impl_reader_fail_8d05 k 6 r3.2.1 a2 r3.2.1 r3.2.2.1 a5 a6 r3.2.2.2).bind fun r7 => some ((-1), r7.1, r7.2, r3.2.2.2)) (some (r3.1, r3.2.1, r3.2.2.1, r3.2.2.2))
def F_impl_reader_all_51fc (k : Nat) (a1 : Int) (a2 : ByteArray) (a3 : Int) (a4 : Int) (a5 : ByteArray) (a6 : (List Int)) (a7 : (List (Int × (Int × Int)))) : Option (Int × Int × Int × (List (Int × (Int × Int)))) :=
  cond (decide ((a2.size : Int) > a1)) ((F_impl_reader_fail_8d05 k 1 0 a2 a3 a4 a5 a6 a7).bind fun r2 => some ((-1), r2.1, r2.2, a7)) ((F_impl_reader_read_0f1e k k a2 a3 a4 a5 a6 a7).bind fun r3 => cond (r3.2.2.1 == 0) ((F_impl_reader_all_51fc_J4 k a2 r3 a5 a6) (decide (r3.2.1 < (a2.size : Int)))) ((F_impl_reader_all_51fc_J4 k a2 r3 a5 a6) (false)))
def F_impl_RecipeRun (k : Nat) (a1 : (List (Int × (Int × Int)))) (a2 : (List Int)) (a3 : ByteArray) : Option (Int × Int × Int × (List (Int × (Int × Int)))) :=
  cond (decide ((a3.size : Int) > 2000)) ((F_impl_orEmpty k a1).bind fun r3 => some ((-1), 0, 1, r3)) ((F_impl_KnowOk k a1 a2).bind fun r4 => cond (!r4) ((F_impl_orEmpty k a1).bind fun r6 => some ((-1), 0, 5, r6)) ((F_impl_copyPool k a1).bind fun r7 => (F_impl_reader_all_51fc k 2000 a3 0 0 (⟨#[64, 60, 62, 33, 111, 120]⟩ : ByteArray) a2 r7).bind fun r8 => cond (r8.2.2.1 != 0) ((F_impl_copyPool k a1).bind fun r11 => some ((-1), r8.2.1, r8.2.2.1, r11)) (some (r8.1, (a3.size : Int), 0, r8.2.2.2))))
def F_impl_LinkTake_J14 (k : Nat) (a1 : (List (Int × (Int × Int)))) (a4 : Int) (a5 : Bool) (x13 : (Int × (Int × Int))) (v16 : Bool) : Option (Int × Bool × Int × Int) :=
  cond v16 (some (a4, a5, (-1), 2)) ((F_impl_Pool_isName k x13.2.2 8 a1).bind fun r18 => cond r18 (some (a4, true, (-1), 0)) (some (w64 (a4 + 1), a5, x13.2.2, 0)))
def F_impl_LinkTake_J9 (k : Nat) (a1 : (List (Int × (Int × Int)))) (a4 : Int) (a5 : Bool) (x8 : (Int × (Int × Int))) (v11 : Bool) : Option (Int × Bool × Int × Int) :=
  cond v11 (some (a4, a5, (-1), 1)) ((at? a1 x8.2.1).bind fun x13 => cond (a4 == 20) ((F_impl_LinkTake_J14 k a1 a4 a5 x13) (true)) ((F_impl_Pool_isName k x13.2.1 (w64 (20 + a4)) a1).bind fun r15 => (F_impl_LinkTake_J14 k a1 a4 a5 x13) (!r15)))
def F_impl_LinkTake_J2 (k : Nat) (a1 : (List (Int × (Int × Int)))) (a2 : Int) (a4 : Int) (a5 : Bool) (a6 : Int) (v5 : Bool) : Option (Int × Bool × Int × Int) :=
  cond v5 (some (a4, a5, (-1), 4)) (cond a5 (some (a4, a5, (-1), 3)) ((at? a1 a6).bind fun x8 => cond (x8.1 != 3) ((F_impl_LinkTake_J9 k a1 a4 a5 x8) (true)) (cond (x8.2.2 != a2) ((F_impl_LinkTake_J9 k a1 a4 a5 x8) (true)) ((at? a1 x8.2.1).bind fun x10 => (F_impl_LinkTake_J9 k a1 a4 a5 x8) (x10.1 != 2)))))
def F_impl_LinkTake (k : Nat) (a1 : (List (Int × (Int × Int)))) (a2 : Int) (a3 : Int) (a4 : Int) (a5 : Bool) (a6 : Int) : Option (Int × Bool × Int × Int) :=
  (F_impl_Pool_isTerm k a6 a1).bind fun r3 => cond (!r3) ((F_impl_LinkTake_J2 k a1 a2 a4 a5 a6) (true)) ((F_impl_LinkOk k a1 a2 a3 a4 a5).bind fun r4 => (F_impl_LinkTake_J2 k a1 a2 a4 a5 a6) (!r4))
def F_impl_Stream_take_b76b_J10 (k : Nat) (r2 : Int × Int × Int × (List (Int × (Int × Int)))) (r6 : Int × Bool × Int × Int) (v11 : (List Int)) : Option (Bool × Int × Bool × (List (Int × (Int × Int))) × (List Int)) :=
  some (true, r6.1, r6.2.1, r2.2.2.2, v11)
def F_impl_Stream_take_b76b (k : Nat) (a1 : ByteArray) (a2 : Int) (a3 : Int) (a4 : Int) (a5 : Bool) (a6 : Int) (a7 : Int) (a8 : Int) (a9 : Bool) (a10 : (List (Int × (Int × Int)))) (a11 : (List Int)) (a12 : (List Int)) (a13 : (List Int)) : Option (Bool × Int × Bool × (List (Int × (Int × Int))) × (List Int)) :=
  ((F_impl_RecipeRun k a10 a11 a1).bind fun r2 => cond (r2.2.2.1 != 0) (some (false, a8, a9, a10, a13)) ((F_impl_LinkTake k r2.2.2.2 a6 a7 a8 a9 r2.1).bind fun r6 => cond (r6.2.2.2 != 0) (some (false, a8, a9, a10, a13)) (cond (decide (r6.2.2.1 ≥ 0)) (if a13.length + [r6.2.2.1].length ≤ 1099511627776 then (F_impl_Stream_take_b76b_J10 k r2 r6) (a13 ++ [r6.2.2.1]) else none) ((F_impl_Stream_take_b76b_J10 k r2 r6) (a13)))))
def F_impl_LinkTurn_J1 (k : Nat) (a1 : (List (Int × (Int × Int)))) (a2 : Int) (a3 : Int) (a4 : Int) (a5 : Bool) (v3 : Bool) : Option (Int × Int × Int × Bool × Bool × (List (Int × (Int × Int)))) :=
  cond v3 ((F_impl_orEmpty k a1).bind fun r6 => some (a2, a3, a4, a5, false, r6)) ((F_impl_copyPool k a1).bind fun r8 => ((F_impl_Pool_name_3ca5 k 7 r8).bind fun r10 => (F_impl_Pool_add_20d6 k 6 a2 r10.1 r10.2).bind fun r11 => cond (decide (r11.1 < 0)) ((F_impl_copyPool k a1).bind fun r16 => some (a2, a3, a4, a5, false, r16)) (some (r11.1, w64 (a3 + 1), 0, false, true, r11.2))))
def F_impl_LinkTurn (k : Nat) (a1 : (List (Int × (Int × Int)))) (a2 : Int) (a3 : Int) (a4 : Int) (a5 : Bool) : Option (Int × Int × Int × Bool × Bool × (List (Int × (Int × Int)))) :=
  cond a5 ((F_impl_LinkTurn_J1 k a1 a2 a3 a4 a5) (true)) (cond (a3 == 20) ((F_impl_LinkTurn_J1 k a1 a2 a3 a4 a5) (true)) ((F_impl_LinkOk k a1 a2 a3 a4 a5).bind fun r2 => (F_impl_LinkTurn_J1 k a1 a2 a3 a4 a5) (!r2)))
def F_impl_Stream_turn_9350 (k : Nat) (a1 : Int) (a2 : Int) (a3 : Int) (a4 : Bool) (a5 : Int) (a6 : Int) (a7 : Int) (a8 : Bool) (a9 : (List (Int × (Int × Int)))) (a10 : (List Int)) (a11 : (List Int)) (a12 : (List Int)) : Option (Bool × Int × Int × Int × Bool × (List (Int × (Int × Int)))) :=
  ((F_impl_LinkTurn k a9 a1 a2 a3 a4).bind fun r2 => some (r2.2.2.2.2.1, r2.1, r2.2.1, r2.2.2.1, r2.2.2.2.1, r2.2.2.2.2.2))
def F_impl_Stream_turn_82d8 (k : Nat) (a1 : Int) (a2 : Int) (a3 : Int) (a4 : Bool) (a5 : Int) (a6 : Int) (a7 : Int) (a8 : Bool) (a9 : (List (Int × (Int × Int)))) (a10 : (List Int)) (a11 : (List Int)) (a12 : (List Int)) : Option (Bool × Int × Int × Int × Bool × (List (Int × (Int × Int)))) :=
  ((F_impl_LinkTurn k a9 a5 a6 a7 a8).bind fun r2 => some (r2.2.2.2.2.1, r2.1, r2.2.1, r2.2.2.1, r2.2.2.2.1, r2.2.2.2.2.2))
def F_impl_Link_end_4187 (k : Nat) (a1 : Int) (a2 : Int) (a3 : Int) (a4 : Bool) (a5 : (List (Int × (Int × Int)))) : Option (Int × (List (Int × (Int × Int)))) :=
  (F_impl_Pool_name_3ca5 k 8 a5).bind fun r1 => (F_impl_Link_seal_659e k r1.1 a1 a2 a3 a4 r1.2).bind fun r2 => some (r2.1, r2.2)
def F_impl_LinkEnd_J1 (k : Nat) (a1 : (List (Int × (Int × Int)))) (a2 : Int) (a3 : Int) (a4 : Int) (a5 : Bool) (v3 : Bool) : Option (Bool × Int × (List (Int × (Int × Int)))) :=
  cond v3 ((F_impl_orEmpty k a1).bind fun r6 => some (a5, (-1), r6)) ((F_impl_copyPool k a1).bind fun r8 => (F_impl_Link_end_4187 k a2 a3 a4 a5 r8).bind fun r9 => cond (decide (r9.1 < 0)) ((F_impl_copyPool k a1).bind fun r12 => some (a5, (-1), r12)) (some (true, r9.1, r9.2)))
def F_impl_LinkEnd (k : Nat) (a1 : (List (Int × (Int × Int)))) (a2 : Int) (a3 : Int) (a4 : Int) (a5 : Bool) : Option (Bool × Int × (List (Int × (Int × Int)))) :=
  cond a5 ((F_impl_LinkEnd_J1 k a1 a2 a3 a4 a5) (true)) (cond (a4 == 20) ((F_impl_LinkEnd_J1 k a1 a2 a3 a4 a5) (true)) ((F_impl_LinkOk k a1 a2 a3 a4 a5).bind fun r2 => (F_impl_LinkEnd_J1 k a1 a2 a3 a4 a5) (!r2)))
def F_impl_Stream_end_4594 (k : Nat) (a1 : Int) (a2 : Int) (a3 : Int) (a4 : Bool) (a5 : Int) (a6 : Int) (a7 : Int) (a8 : Bool) (a9 : (List (Int × (Int × Int)))) (a10 : (List Int)) (a11 : (List Int)) (a12 : (List Int)) : Option (Bool × Bool × (List (Int × (Int × Int))) × (List Int)) :=
  ((F_impl_LinkEnd k a9 a1 a2 a3 a4).bind fun r2 => (F_impl_Stream_heard_65c4 k r2.2.1 a1 a2 a3 r2.1 a5 a6 a7 a8 r2.2.2 a10 a11 a12).bind fun r5 => some (r5.1, r2.1, r2.2.2, r5.2))
def F_impl_Stream_do_e590_J10 (k : Nat) (a1 : Int) (a4 : Int) (a5 : Int) (a6 : Int) (a7 : Bool) (a8 : Int) (a9 : Int) (a10 : Int) (a11 : Bool) (a12 : (List (Int × (Int × Int)))) (a13 : (List Int)) (a14 : (List Int)) (a15 : (List Int)) (v11 : Bool) : Option (Bool × Int × Int × Int × Bool × Int × Int × Int × Bool × (List (Int × (Int × Int))) × (List Int) × (List Int) × (List Int)) :=
  cond v11 (some (false, a4, a5, a6, a7, a8, a9, a10, a11, a12, a13, a14, a15)) (cond (a1 == 2) ((F_impl_Stream_turn_9350 k a4 a5 a6 a7 a8 a9 a10 a11 a12 a13 a14 a15).bind fun r15 => some (r15.1, r15.2.1, r15.2.2.1, r15.2.2.2.1, r15.2.2.2.2.1, a8, a9, a10, a11, r15.2.2.2.2.2, a13, a14, a15)) (cond (a1 == 5) ((F_impl_Stream_turn_82d8 k a4 a5 a6 a7 a8 a9 a10 a11 a12 a13 a14 a15).bind fun r17 => some (r17.1, a4, a5, a6, a7, r17.2.1, r17.2.2.1, r17.2.2.2.1, r17.2.2.2.2.1, r17.2.2.2.2.2, a13, a14, a15)) (cond (a1 == 3) ((F_impl_Stream_end_4594 k a4 a5 a6 a7 a8 a9 a10 a11 a12 a13 a14 a15).bind fun r19 => some (r19.1, a4, a5, a6, r19.2.1, a8, a9, a10, a11, r19.2.2.1, r19.2.2.2, a14, a15)) (some (false, a4, a5, a6, a7, a8, a9, a10, a11, a12, a13, a14, a15)))))
def F_impl_Stream_do_e590_J6 (k : Nat) (a1 : Int) (a2 : Int) (a3 : ByteArray) (a4 : Int) (a5 : Int) (a6 : Int) (a7 : Bool) (a8 : Int) (a9 : Int) (a10 : Int) (a11 : Bool) (a12 : (List (Int × (Int × Int)))) (a13 : (List Int)) (a14 : (List Int)) (a15 : (List Int)) (v7 : Bool) : Option (Bool × Int × Int × Int × Bool × Int × Int × Int × Bool × (List (Int × (Int × Int))) × (List Int) × (List Int) × (List Int)) :=
  cond v7 ((F_impl_Stream_take_b76b k a3 a4 a5 a6 a7 a8 a9 a10 a11 a12 a13 a14 a15).bind fun r9 => some (r9.1, a4, a5, a6, a7, a8, a9, r9.2.1, r9.2.2.1, r9.2.2.2.1, a13, a14, r9.2.2.2.2)) (cond (a2 != 0) ((F_impl_Stream_do_e590_J10 k a1 a4 a5 a6 a7 a8 a9 a10 a11 a12 a13 a14 a15) (true)) ((F_impl_Stream_do_e590_J10 k a1 a4 a5 a6 a7 a8 a9 a10 a11 a12 a13 a14 a15) (!(a3.toList == (⟨#[]⟩ : ByteArray).toList))))
def F_impl_Stream_do_e590_J2 (k : Nat) (a1 : Int) (a2 : Int) (a3 : ByteArray) (a4 : Int) (a5 : Int) (a6 : Int) (a7 : Bool) (a8 : Int) (a9 : Int) (a10 : Int) (a11 : Bool) (a12 : (List (Int × (Int × Int)))) (a13 : (List Int)) (a14 : (List Int)) (a15 : (List Int)) (v3 : Bool) : Option (Bool × Int × Int × Int × Bool × Int × Int × Int × Bool × (List (Int × (Int × Int))) × (List Int) × (List Int) × (List Int)) :=
  cond v3 ((F_impl_Stream_send_65c4 k a2 a4 a5 a6 a7 a8 a9 a10 a11 a12 a13 a14 a15).bind fun r5 => some (r5.1, a4, a5, r5.2.1, a7, a8, a9, a10, a11, r5.2.2.1, r5.2.2.2.1, r5.2.2.2.2, a15)) (cond (a1 == 4) ((F_impl_Stream_do_e590_J6 k a1 a2 a3 a4 a5 a6 a7 a8 a9 a10 a11 a12 a13 a14 a15) (a2 == 0)) ((F_impl_Stream_do_e590_J6 k a1 a2 a3 a4 a5 a6 a7 a8 a9 a10 a11 a12 a13 a14 a15) (false)))
def F_impl_Stream_do_e590 (k : Nat) (a1 : Int) (a2 : Int) (a3 : ByteArray) (a4 : Int) (a5 : Int) (a6 : Int) (a7 : Bool) (a8 : Int) (a9 : Int) (a10 : Int) (a11 : Bool) (a12 : (List (Int × (Int × Int)))) (a13 : (List Int)) (a14 : (List Int)) (a15 : (List Int)) : Option (Bool × Int × Int × Int × Bool × Int × Int × Int × Bool × (List (Int × (Int × Int))) × (List Int) × (List Int) × (List Int)) :=
  cond (a1 == 1) ((F_impl_Stream_do_e590_J2 k a1 a2 a3 a4 a5 a6 a7 a8 a9 a10 a11 a12 a13 a14 a15) (a3.toList == (⟨#[]⟩ : ByteArray).toList)) ((F_impl_Stream_do_e590_J2 k a1 a2 a3 a4 a5 a6 a7 a8 a9 a10 a11 a12 a13 a14 a15) (false))
def F_impl_Stream_fits_4594 (k : Nat) (a1 : Int) (a2 : Int) (a3 : Int) (a4 : Bool) (a5 : Int) (a6 : Int) (a7 : Int) (a8 : Bool) (a9 : (List (Int × (Int × Int)))) (a10 : (List Int)) (a11 : (List Int)) (a12 : (List Int)) : Option (Bool) :=
  cond (decide ((a9.length : Int) ≤ 400)) (cond (decide ((a11.length : Int) ≤ 60)) (some (decide ((a12.length : Int) ≤ 60))) (some (false))) (some (false))
def F_impl_StreamDo_J4 (k : Nat) (a1 : (List (Int × (Int × Int)))) (a2 : (List Int)) (a3 : Int) (a4 : Int) (a5 : Int) (a6 : Bool) (a7 : Int) (a8 : Int) (a9 : Int) (a10 : Bool) (a11 : (List Int)) (a12 : (List Int)) (v7 : Bool × Int × Int × Int × Bool × Int × Int × Int × Bool × (List (Int × (Int × Int))) × (List Int) × (List Int) × (List Int)) : Option (Int × Int × Int × Bool × Int × Int × Int × Bool × Bool × (List (Int × (Int × Int))) × (List Int) × (List Int) × (List Int)) :=
  cond v7.1 ((F_impl_copyStream k a1 a2 a3 a4 a5 a6 a7 a8 a9 a10 a11 a12).bind fun r9 => some (a3, a4, a5, a6, a7, a8, a9, a10, false, r9.1, r9.2.1, r9.2.2.1, r9.2.2.2)) (some (v7.2.1, v7.2.2.1, v7.2.2.2.1, v7.2.2.2.2.1, v7.2.2.2.2.2.1, v7.2.2.2.2.2.2.1, v7.2.2.2.2.2.2.2.1, v7.2.2.2.2.2.2.2.2.1, true, v7.2.2.2.2.2.2.2.2.2.1, v7.2.2.2.2.2.2.2.2.2.2.1, v7.2.2.2.2.2.2.2.2.2.2.2.1, v7.2.2.2.2.2.2.2.2.2.2.2.2))
def F_impl_StreamDo (k : Nat) (a1 : (List (Int × (Int × Int)))) (a2 : (List Int)) (a3 : Int) (a4 : Int) (a5 : Int) (a6 : Bool) (a7 : Int) (a8 : Int) (a9 : Int) (a10 : Bool) (a11 : (List Int)) (a12 : (List Int)) (a13 : Int) (a14 : Int) (a15 : ByteArray) : Option (Int × Int × Int × Bool × Int × Int × Int × Bool × Bool × (List (Int × (Int × Int))) × (List Int) × (List Int) × (List Int)) :=
  (F_impl_StreamOk k a1 a2 a3 a4 a5 a6 a7 a8 a9 a10 a11 a12).bind fun r1 => cond (!r1) (some (0, 0, 0, false, 0, 0, 0, false, false, ([] : List (Int × (Int × Int))), ([] : List Int), ([] : List Int), ([] : List Int))) ((F_impl_copyStream k a1 a2 a3 a4 a5 a6 a7 a8 a9 a10 a11 a12).bind fun r3 => (F_impl_Stream_do_e590 k a13 a14 a15 a3 a4 a5 a6 a7 a8 a9 a10 r3.1 r3.2.1 r3.2.2.1 r3.2.2.2).bind fun r5 => cond (!r5.1) ((F_impl_StreamDo_J4 k a1 a2 a3 a4 a5 a6 a7 a8 a9 a10 a11 a12) (true, r5.2.1, r5.2.2.1, r5.2.2.2.1, r5.2.2.2.2.1, r5.2.2.2.2.2.1, r5.2.2.2.2.2.2.1, r5.2.2.2.2.2.2.2.1, r5.2.2.2.2.2.2.2.2.1, r5.2.2.2.2.2.2.2.2.2.1, r5.2.2.2.2.2.2.2.2.2.2.1, r5.2.2.2.2.2.2.2.2.2.2.2.1, r5.2.2.2.2.2.2.2.2.2.2.2.2)) ((F_impl_Stream_fits_4594 k r5.2.1 r5.2.2.1 r5.2.2.2.1 r5.2.2.2.2.1 r5.2.2.2.2.2.1 r5.2.2.2.2.2.2.1 r5.2.2.2.2.2.2.2.1 r5.2.2.2.2.2.2.2.2.1 r5.2.2.2.2.2.2.2.2.2.1 r5.2.2.2.2.2.2.2.2.2.2.1 r5.2.2.2.2.2.2.2.2.2.2.2.1 r5.2.2.2.2.2.2.2.2.2.2.2.2).bind fun r6 => (F_impl_StreamDo_J4 k a1 a2 a3 a4 a5 a6 a7 a8 a9 a10 a11 a12) (!r6, r5.2.1, r5.2.2.1, r5.2.2.2.1, r5.2.2.2.2.1, r5.2.2.2.2.2.1, r5.2.2.2.2.2.2.1, r5.2.2.2.2.2.2.2.1, r5.2.2.2.2.2.2.2.2.1, r5.2.2.2.2.2.2.2.2.2.1, r5.2.2.2.2.2.2.2.2.2.2.1, r5.2.2.2.2.2.2.2.2.2.2.2.1, r5.2.2.2.2.2.2.2.2.2.2.2.2)))
def F_impl_StreamRun_J6 (k : Nat) (v22 : Int × Int × Int × Int × Bool × Int × Int × Int × Bool × (List (Int × (Int × Int))) × (List Int) × (List Int) × (List Int)) : Option (Int × Int × Int × Bool × Int × Int × Int × Bool × Int × (List (Int × (Int × Int))) × (List Int) × (List Int) × (List Int)) :=
  some (v22.2.1, v22.2.2.1, v22.2.2.2.1, v22.2.2.2.2.1, v22.2.2.2.2.2.1, v22.2.2.2.2.2.2.1, v22.2.2.2.2.2.2.2.1, v22.2.2.2.2.2.2.2.2.1, v22.1, v22.2.2.2.2.2.2.2.2.2.1, v22.2.2.2.2.2.2.2.2.2.2.1, v22.2.2.2.2.2.2.2.2.2.2.2.1, v22.2.2.2.2.2.2.2.2.2.2.2.2)
def F_impl_StreamRun_J17 (k : Nat) (s15 : Int × Int × Int × Int × Int × Bool × Int × Int × Int × Bool × (List (Int × (Int × Int))) × (List Int) × (List Int) × (List Int)) (bL7 : Int × Int × Int × Int × Int × Bool × Int × Int × Int × Bool × (List (Int × (Int × Int))) × (List Int) × (List Int) × (List Int) → Option (Int × Int × Int × Bool × Int × Int × Int × Bool × Int × (List (Int × (Int × Int))) × (List Int) × (List Int) × (List Int))) (v21 : Int × Int × Int × Int × Bool × Int × Int × Int × Bool × (List (Int × (Int × Int))) × (List Int) × (List Int) × (List Int)) : Option (Int × Int × Int × Bool × Int × Int × Int × Bool × Int × (List (Int × (Int × Int))) × (List Int) × (List Int) × (List Int)) :=
  bL7 (v21.1, w64 (s15.2.1 + 1), v21.2.1, v21.2.2.1, v21.2.2.2.1, v21.2.2.2.2.1, v21.2.2.2.2.2.1, v21.2.2.2.2.2.2.1, v21.2.2.2.2.2.2.2.1, v21.2.2.2.2.2.2.2.2.1, v21.2.2.2.2.2.2.2.2.2.1, v21.2.2.2.2.2.2.2.2.2.2.1, v21.2.2.2.2.2.2.2.2.2.2.2.1, v21.2.2.2.2.2.2.2.2.2.2.2.2)
def F_impl_StreamRun_L7 (k : Nat) (a13 : (List (Int × (Int × ByteArray)))) (eJ6 : Int × Int × Int × Int × Bool × Int × Int × Int × Bool × (List (Int × (Int × Int))) × (List Int) × (List Int) × (List Int) → Option (Int × Int × Int × Bool × Int × Int × Int × Bool × Int × (List (Int × (Int × Int))) × (List Int) × (List Int) × (List Int))) : Nat → Int × Int × Int × Int × Int × Bool × Int × Int × Int × Bool × (List (Int × (Int × Int))) × (List Int) × (List Int) × (List Int) → Option (Int × Int × Int × Bool × Int × Int × Int × Bool × Int × (List (Int × (Int × Int))) × (List Int) × (List Int) × (List Int))
  | 0, _ => none
  | nL7 + 1, s15 => cond (decide (s15.2.1 < (a13.length : Int))) ((at? a13 s15.2.1).bind fun x18 => (F_impl_StreamDo k s15.2.2.2.2.2.2.2.2.2.2.1 s15.2.2.2.2.2.2.2.2.2.2.2.1 s15.2.2.1 s15.2.2.2.1 s15.2.2.2.2.1 s15.2.2.2.2.2.1 s15.2.2.2.2.2.2.1 s15.2.2.2.2.2.2.2.1 s15.2.2.2.2.2.2.2.2.1 s15.2.2.2.2.2.2.2.2.2.1 s15.2.2.2.2.2.2.2.2.2.2.2.2.1 s15.2.2.2.2.2.2.2.2.2.2.2.2.2 x18.1 x18.2.1 x18.2.2).bind fun r19 => cond r19.2.2.2.2.2.2.2.2.1 ((F_impl_StreamRun_J17 k s15 (F_impl_StreamRun_L7 k a13 eJ6 nL7)) (w64 (s15.1 + 1), r19.1, r19.2.1, r19.2.2.1, r19.2.2.2.1, r19.2.2.2.2.1, r19.2.2.2.2.2.1, r19.2.2.2.2.2.2.1, r19.2.2.2.2.2.2.2.1, r19.2.2.2.2.2.2.2.2.2.1, r19.2.2.2.2.2.2.2.2.2.2.1, r19.2.2.2.2.2.2.2.2.2.2.2.1, r19.2.2.2.2.2.2.2.2.2.2.2.2)) ((F_impl_StreamRun_J17 k s15 (F_impl_StreamRun_L7 k a13 eJ6 nL7)) (s15.1, r19.1, r19.2.1, r19.2.2.1, r19.2.2.2.1, r19.2.2.2.2.1, r19.2.2.2.2.2.1, r19.2.2.2.2.2.2.1, r19.2.2.2.2.2.2.2.1, r19.2.2.2.2.2.2.2.2.2.1, r19.2.2.2.2.2.2.2.2.2.2.1, r19.2.2.2.2.2.2.2.2.2.2.2.1, r19.2.2.2.2.2.2.2.2.2.2.2.2))) (eJ6 (s15.1, s15.2.2.1, s15.2.2.2.1, s15.2.2.2.2.1, s15.2.2.2.2.2.1, s15.2.2.2.2.2.2.1, s15.2.2.2.2.2.2.2.1, s15.2.2.2.2.2.2.2.2.1, s15.2.2.2.2.2.2.2.2.2.1, s15.2.2.2.2.2.2.2.2.2.2.1, s15.2.2.2.2.2.2.2.2.2.2.2.1, s15.2.2.2.2.2.2.2.2.2.2.2.2.1, s15.2.2.2.2.2.2.2.2.2.2.2.2.2))
def F_impl_StreamRun_J2 (k : Nat) (r1 : (List (Int × (Int × Int))) × (List Int) × (List Int) × (List Int)) (a3 : Int) (a4 : Int) (a5 : Int) (a6 : Bool) (a7 : Int) (a8 : Int) (a9 : Int) (a10 : Bool) (a13 : (List (Int × (Int × ByteArray)))) (v4 : Bool) : Option (Int × Int × Int × Bool × Int × Int × Int × Bool × Int × (List (Int × (Int × Int))) × (List Int) × (List Int) × (List Int)) :=
  cond v4 (some (a3, a4, a5, a6, a7, a8, a9, a10, 0, r1.1, r1.2.1, r1.2.2.1, r1.2.2.2)) (F_impl_StreamRun_L7 k a13 (F_impl_StreamRun_J6 k) k (0, 0, a3, a4, a5, a6, a7, a8, a9, a10, r1.1, r1.2.1, r1.2.2.1, r1.2.2.2))
def F_impl_StreamRun (k : Nat) (a1 : (List (Int × (Int × Int)))) (a2 : (List Int)) (a3 : Int) (a4 : Int) (a5 : Int) (a6 : Bool) (a7 : Int) (a8 : Int) (a9 : Int) (a10 : Bool) (a11 : (List Int)) (a12 : (List Int)) (a13 : (List (Int × (Int × ByteArray)))) : Option (Int × Int × Int × Bool × Int × Int × Int × Bool × Int × (List (Int × (Int × Int))) × (List Int) × (List Int) × (List Int)) :=
  (F_impl_copyStream k a1 a2 a3 a4 a5 a6 a7 a8 a9 a10 a11 a12).bind fun r1 => cond (decide ((a13.length : Int) > 60)) ((F_impl_StreamRun_J2 k r1 a3 a4 a5 a6 a7 a8 a9 a10 a13) (true)) ((F_impl_StreamOk k a1 a2 a3 a4 a5 a6 a7 a8 a9 a10 a11 a12).bind fun r3 => (F_impl_StreamRun_J2 k r1 a3 a4 a5 a6 a7 a8 a9 a10 a13) (!r3))
def F_laws_eqNode (k : Nat) (a1 : Int) (a2 : Int) (a3 : Int) (a4 : Int) (a5 : Int) (a6 : Int) : Option (Bool) :=
  cond (a1 != a4) (some (false)) (cond (a2 != a5) (some (false)) (cond (a3 != a6) (some (false)) (some (true))))
def F_laws_eqNodeS_J2 (k : Nat) (v26 : Unit) : Option (Bool) :=
  some (true)
def F_laws_eqNodeS_L3 (k : Nat) (a1 : (List (Int × (Int × Int)))) (a2 : (List (Int × (Int × Int)))) (eJ2 : Unit → Option (Bool)) : Nat → Int → Option (Bool)
  | 0, _ => none
  | nL3 + 1, s15 => cond (decide (s15 < (a1.length : Int))) ((at? a1 s15).bind fun x19 => (at? a2 s15).bind fun x20 => (F_laws_eqNode k x19.1 x19.2.1 x19.2.2 x20.1 x20.2.1 x20.2.2).bind fun r21 => cond (!r21) (some (false)) ((F_laws_eqNodeS_L3 k a1 a2 eJ2 nL3) (w64 (s15 + 1)))) (eJ2 ())
def F_laws_eqNodeS (k : Nat) (a1 : (List (Int × (Int × Int)))) (a2 : (List (Int × (Int × Int)))) : Option (Bool) :=
  cond ((a1.length : Int) != (a2.length : Int)) (some (false)) (F_laws_eqNodeS_L3 k a1 a2 (F_laws_eqNodeS_J2 k) k (0))
def F_laws_eqPool (k : Nat) (a1 : (List (Int × (Int × Int)))) (a2 : (List (Int × (Int × Int)))) : Option (Bool) :=
  (F_laws_eqNodeS k a1 a2).bind fun r1 => cond (!r1) (some (false)) (some (true))
def F_laws_eqIntS_J2 (k : Nat) (v22 : Unit) : Option (Bool) :=
  some (true)
def F_laws_eqIntS_L3 (k : Nat) (a1 : (List Int)) (a2 : (List Int)) (eJ2 : Unit → Option (Bool)) : Nat → Int → Option (Bool)
  | 0, _ => none
  | nL3 + 1, s13 => cond (decide (s13 < (a1.length : Int))) ((at? a1 s13).bind fun x17 => (at? a2 s13).bind fun x18 => cond (x17 != x18) (some (false)) ((F_laws_eqIntS_L3 k a1 a2 eJ2 nL3) (w64 (s13 + 1)))) (eJ2 ())
def F_laws_eqIntS (k : Nat) (a1 : (List Int)) (a2 : (List Int)) : Option (Bool) :=
  cond ((a1.length : Int) != (a2.length : Int)) (some (false)) (F_laws_eqIntS_L3 k a1 a2 (F_laws_eqIntS_J2 k) k (0))
def F_laws_eqLink (k : Nat) (a1 : Int) (a2 : Int) (a3 : Int) (a4 : Bool) (a5 : Int) (a6 : Int) (a7 : Int) (a8 : Bool) : Option (Bool) :=
  cond (a1 != a5) (some (false)) (cond (a2 != a6) (some (false)) (cond (a3 != a7) (some (false)) (cond (a4 != a8) (some (false)) (some (true)))))
def F_laws_eqStream (k : Nat) (a1 : (List (Int × (Int × Int)))) (a2 : (List Int)) (a3 : Int) (a4 : Int) (a5 : Int) (a6 : Bool) (a7 : Int) (a8 : Int) (a9 : Int) (a10 : Bool) (a11 : (List Int)) (a12 : (List Int)) (a13 : (List (Int × (Int × Int)))) (a14 : (List Int)) (a15 : Int) (a16 : Int) (a17 : Int) (a18 : Bool) (a19 : Int) (a20 : Int) (a21 : Int) (a22 : Bool) (a23 : (List Int)) (a24 : (List Int)) : Option (Bool) :=
  (F_laws_eqPool k a1 a13).bind fun r1 => cond (!r1) (some (false)) ((F_laws_eqIntS k a2 a14).bind fun r3 => cond (!r3) (some (false)) ((F_laws_eqLink k a3 a4 a5 a6 a15 a16 a17 a18).bind fun r5 => cond (!r5) (some (false)) ((F_laws_eqLink k a7 a8 a9 a10 a19 a20 a21 a22).bind fun r7 => cond (!r7) (some (false)) ((F_laws_eqIntS k a11 a23).bind fun r9 => cond (!r9) (some (false)) ((F_laws_eqIntS k a12 a24).bind fun r11 => cond (!r11) (some (false)) (some (true)))))))
def F_laws_eqAction (k : Nat) (a1 : Int) (a2 : Int) (a3 : ByteArray) (a4 : Int) (a5 : Int) (a6 : ByteArray) : Option (Bool) :=
  cond (a1 != a4) (some (false)) (cond (a2 != a5) (some (false)) (cond (!(a3.toList == a6.toList)) (some (false)) (some (true))))
def F_laws_eqActionS_J2 (k : Nat) (v26 : Unit) : Option (Bool) :=
  some (true)
def F_laws_eqActionS_L3 (k : Nat) (a1 : (List (Int × (Int × ByteArray)))) (a2 : (List (Int × (Int × ByteArray)))) (eJ2 : Unit → Option (Bool)) : Nat → Int → Option (Bool)
  | 0, _ => none
  | nL3 + 1, s15 => cond (decide (s15 < (a1.length : Int))) ((at? a1 s15).bind fun x19 => (at? a2 s15).bind fun x20 => (F_laws_eqAction k x19.1 x19.2.1 x19.2.2 x20.1 x20.2.1 x20.2.2).bind fun r21 => cond (!r21) (some (false)) ((F_laws_eqActionS_L3 k a1 a2 eJ2 nL3) (w64 (s15 + 1)))) (eJ2 ())
def F_laws_eqActionS (k : Nat) (a1 : (List (Int × (Int × ByteArray)))) (a2 : (List (Int × (Int × ByteArray)))) : Option (Bool) :=
  cond ((a1.length : Int) != (a2.length : Int)) (some (false)) (F_laws_eqActionS_L3 k a1 a2 (F_laws_eqActionS_J2 k) k (0))
def F_laws_markNodeS_10f2_J1 (k : Nat) (v15 : Int × (List (Int × (Int × Int)))) : Option (Int × (List (Int × (Int × Int)))) :=
  some (v15.1, v15.2)
def F_laws_markNodeS_10f2_L2 (k : Nat) (eJ1 : Int × (List (Int × (Int × Int))) → Option (Int × (List (Int × (Int × Int))))) : Nat → Int × Int × (List (Int × (Int × Int))) → Option (Int × (List (Int × (Int × Int))))
  | 0, _ => none
  | nL2 + 1, s9 => cond (decide (s9.2.1 < (s9.2.2.length : Int))) ((at? s9.2.2 s9.2.1).bind fun x12 => ((at? (s9.2.2.set ((s9.2.1).toNat) (s9.1, x12.2)) s9.2.1).bind fun x13 => ((at? ((s9.2.2.set ((s9.2.1).toNat) (s9.1, x12.2)).set ((s9.2.1).toNat) (x13.1, (w64 (s9.1 + 1), x13.2.2))) s9.2.1).bind fun x14 => (F_laws_markNodeS_10f2_L2 k eJ1 nL2) (w64 ((w64 ((w64 (s9.1 + 1)) + 1)) + 1), w64 (s9.2.1 + 1), ((s9.2.2.set ((s9.2.1).toNat) (s9.1, x12.2)).set ((s9.2.1).toNat) (x13.1, (w64 (s9.1 + 1), x13.2.2))).set ((s9.2.1).toNat) (x14.1, (x14.2.1, w64 ((w64 (s9.1 + 1)) + 1))))))) (eJ1 (s9.1, s9.2.2))
def F_laws_markNodeS_10f2 (k : Nat) (a1 : Int) (a2 : (List (Int × (Int × Int)))) : Option (Int × (List (Int × (Int × Int)))) :=
  F_laws_markNodeS_10f2_L2 k (F_laws_markNodeS_10f2_J1 k) k (a1, 0, a2)
def F_laws_markPool_fd6a (k : Nat) (a1 : Int) (a2 : (List (Int × (Int × Int)))) : Option (Int × (List (Int × (Int × Int)))) :=
  (F_laws_markNodeS_10f2 k a1 a2).bind fun r1 => some (r1.1, r1.2)
def F_laws_markIntS_f72a_J1 (k : Nat) (v11 : Int × (List Int)) : Option (Int × (List Int)) :=
  some (v11.1, v11.2)
def F_laws_markIntS_f72a_L2 (k : Nat) (eJ1 : Int × (List Int) → Option (Int × (List Int))) : Nat → Int × Int × (List Int) → Option (Int × (List Int))
  | 0, _ => none
  | nL2 + 1, s7 => cond (decide (s7.2.1 < (s7.2.2.length : Int))) ((at? s7.2.2 s7.2.1).bind fun x10 => (F_laws_markIntS_f72a_L2 k eJ1 nL2) (w64 (s7.1 + 1), w64 (s7.2.1 + 1), s7.2.2.set ((s7.2.1).toNat) s7.1)) (eJ1 (s7.1, s7.2.2))
def F_laws_markIntS_f72a (k : Nat) (a1 : Int) (a2 : (List Int)) : Option (Int × (List Int)) :=
  F_laws_markIntS_f72a_L2 k (F_laws_markIntS_f72a_J1 k) k (a1, 0, a2)
def F_laws_markStream_3c3c (k : Nat) (a1 : Int) (a2 : Int) (a3 : Int) (a4 : Bool) (a5 : Int) (a6 : Int) (a7 : Int) (a8 : Bool) (a9 : Int) (a10 : (List (Int × (Int × Int)))) (a11 : (List Int)) (a12 : (List Int)) (a13 : (List Int)) : Option (Int × (List (Int × (Int × Int))) × (List Int) × (List Int) × (List Int)) :=
  (F_laws_markPool_fd6a k a9 a10).bind fun r1 => (F_laws_markIntS_f72a k r1.1 a11).bind fun r2 => (F_laws_markIntS_f72a k r2.1 a12).bind fun r3 => (F_laws_markIntS_f72a k r3.1 a13).bind fun r4 => some (r4.1, r1.2, r2.2, r3.2, r4.2)
def F_laws_markText_J2 (k : Nat) (v10 : ByteArray) : Option (ByteArray) :=
  (if (⟨#[109]⟩ : ByteArray).size + v10.size ≤ 9223372036854775807 then some ((⟨#[109]⟩ : ByteArray) ++ v10) else none)
def F_laws_markText_L3 (k : Nat) (eJ2 : ByteArray → Option (ByteArray)) : Nat → Int × ByteArray → Option (ByteArray)
  | 0, _ => none
  | nL3 + 1, s7 => cond (decide (s7.1 > 0)) (if (bstr [IntKind.u8.wrap (w64 (48 + (Int.tmod s7.1 10)))]).size + s7.2.size ≤ 9223372036854775807 then ((F_laws_markText_L3 k eJ2 nL3) (w64 (Int.tdiv s7.1 10), (bstr [IntKind.u8.wrap (w64 (48 + (Int.tmod s7.1 10)))]) ++ s7.2)) else none) (eJ2 (s7.2))
def F_laws_markText (k : Nat) (a1 : Int) : Option (ByteArray) :=
  cond (decide (a1 ≤ 0)) (some ((⟨#[109, 48]⟩ : ByteArray))) (F_laws_markText_L3 k (F_laws_markText_J2 k) k (a1, (⟨#[]⟩ : ByteArray)))
def F_laws_markActionS_fa3f_J1 (k : Nat) (v17 : Int × (List (Int × (Int × ByteArray)))) : Option (Int × (List (Int × (Int × ByteArray)))) :=
  some (v17.1, v17.2)
def F_laws_markActionS_fa3f_L2 (k : Nat) (eJ1 : Int × (List (Int × (Int × ByteArray))) → Option (Int × (List (Int × (Int × ByteArray))))) : Nat → Int × Int × (List (Int × (Int × ByteArray))) → Option (Int × (List (Int × (Int × ByteArray))))
  | 0, _ => none
  | nL2 + 1, s10 => cond (decide (s10.2.1 < (s10.2.2.length : Int))) ((at? s10.2.2 s10.2.1).bind fun x13 => ((at? (s10.2.2.set ((s10.2.1).toNat) (s10.1, x13.2)) s10.2.1).bind fun x14 => (F_laws_markText k (w64 ((w64 (s10.1 + 1)) + 1))).bind fun r15 => ((at? ((s10.2.2.set ((s10.2.1).toNat) (s10.1, x13.2)).set ((s10.2.1).toNat) (x14.1, (w64 (s10.1 + 1), x14.2.2))) s10.2.1).bind fun x16 => (F_laws_markActionS_fa3f_L2 k eJ1 nL2) (w64 ((w64 ((w64 (s10.1 + 1)) + 1)) + 1), w64 (s10.2.1 + 1), ((s10.2.2.set ((s10.2.1).toNat) (s10.1, x13.2)).set ((s10.2.1).toNat) (x14.1, (w64 (s10.1 + 1), x14.2.2))).set ((s10.2.1).toNat) (x16.1, (x16.2.1, r15)))))) (eJ1 (s10.1, s10.2.2))
def F_laws_markActionS_fa3f (k : Nat) (a1 : Int) (a2 : (List (Int × (Int × ByteArray)))) : Option (Int × (List (Int × (Int × ByteArray)))) :=
  F_laws_markActionS_fa3f_L2 k (F_laws_markActionS_fa3f_J1 k) k (a1, 0, a2)
def F_laws_heldNodeS_J1 (k : Nat) (v21 : Int) : Option (Int) :=
  some (v21)
def F_laws_heldNodeS_L2 (k : Nat) (a1 : (List (Int × (Int × Int)))) (eJ1 : Int → Option (Int)) : Nat → Int × Int → Option (Int)
  | 0, _ => none
  | nL2 + 1, s12 => cond (decide (s12.2 < (a1.length : Int))) ((at? a1 s12.2).bind fun x15 => cond (x15.1 != s12.1) (some ((-1))) ((at? a1 s12.2).bind fun x17 => cond (x17.2.1 != (w64 (s12.1 + 1))) (some ((-1))) ((at? a1 s12.2).bind fun x19 => cond (x19.2.2 != (w64 ((w64 (s12.1 + 1)) + 1))) (some ((-1))) ((F_laws_heldNodeS_L2 k a1 eJ1 nL2) (w64 ((w64 ((w64 (s12.1 + 1)) + 1)) + 1), w64 (s12.2 + 1)))))) (eJ1 (s12.1))
def F_laws_heldNodeS (k : Nat) (a1 : (List (Int × (Int × Int)))) (a2 : Int) : Option (Int) :=
  F_laws_heldNodeS_L2 k a1 (F_laws_heldNodeS_J1 k) k (a2, 0)
def F_laws_heldPool (k : Nat) (a1 : (List (Int × (Int × Int)))) (a2 : Int) : Option (Int) :=
  (F_laws_heldNodeS k a1 a2).bind fun r1 => cond (decide (r1 < 0)) (some ((-1))) (some (r1))
def F_laws_heldIntS_J1 (k : Nat) (v13 : Int) : Option (Int) :=
  some (v13)
def F_laws_heldIntS_L2 (k : Nat) (a1 : (List Int)) (eJ1 : Int → Option (Int)) : Nat → Int × Int → Option (Int)
  | 0, _ => none
  | nL2 + 1, s8 => cond (decide (s8.2 < (a1.length : Int))) ((at? a1 s8.2).bind fun x11 => cond (x11 != s8.1) (some ((-1))) ((F_laws_heldIntS_L2 k a1 eJ1 nL2) (w64 (s8.1 + 1), w64 (s8.2 + 1)))) (eJ1 (s8.1))
def F_laws_heldIntS (k : Nat) (a1 : (List Int)) (a2 : Int) : Option (Int) :=
  F_laws_heldIntS_L2 k a1 (F_laws_heldIntS_J1 k) k (a2, 0)
def F_laws_heldStream (k : Nat) (a1 : (List (Int × (Int × Int)))) (a2 : (List Int)) (a3 : Int) (a4 : Int) (a5 : Int) (a6 : Bool) (a7 : Int) (a8 : Int) (a9 : Int) (a10 : Bool) (a11 : (List Int)) (a12 : (List Int)) (a13 : Int) : Option (Int) :=
  (F_laws_heldPool k a1 a13).bind fun r1 => cond (decide (r1 < 0)) (some ((-1))) ((F_laws_heldIntS k a2 r1).bind fun r3 => cond (decide (r3 < 0)) (some ((-1))) ((F_laws_heldIntS k a11 r3).bind fun r5 => cond (decide (r5 < 0)) (some ((-1))) ((F_laws_heldIntS k a12 r5).bind fun r7 => cond (decide (r7 < 0)) (some ((-1))) (some (r7)))))
def F_laws_FnExactStreamRun_J37 (k : Nat) (r10 : Int × Int × Int × Bool × Int × Int × Int × Bool × Int × (List (Int × (Int × Int))) × (List Int) × (List Int) × (List Int)) (r30 : Int × (List (Int × (Int × Int))) × (List Int) × (List Int) × (List Int)) (v39 : Bool) : Option (Bool) :=
  cond v39 (some (false)) ((F_laws_heldStream k r30.2.1 r30.2.2.1 r10.1 r10.2.1 r10.2.2.1 r10.2.2.2.1 r10.2.2.2.2.1 r10.2.2.2.2.2.1 r10.2.2.2.2.2.2.1 r10.2.2.2.2.2.2.2.1 r30.2.2.2.1 r30.2.2.2.2 1).bind fun r41 => cond (decide (r41 < 0)) (some (false)) (cond (r41 != r30.1) (some (false)) (some (true))))
def F_laws_FnExactStreamRun_J26 (k : Nat) (a1 : (List (Int × (Int × Int)))) (a2 : (List Int)) (a3 : Int) (a4 : Int) (a5 : Int) (a6 : Bool) (a7 : Int) (r7 : Int × Int × Int × Bool × Int × Int × Int × Bool × Int × (List (Int × (Int × Int))) × (List Int) × (List Int) × (List Int)) (a8 : Int) (a9 : Int) (a10 : Bool) (r10 : Int × Int × Int × Bool × Int × Int × Int × Bool × Int × (List (Int × (Int × Int))) × (List Int) × (List Int) × (List Int)) (a11 : (List Int)) (a12 : (List Int)) (a13 : (List (Int × (Int × ByteArray)))) (v28 : Bool) : Option (Bool) :=
  cond v28 (some (false)) ((F_laws_markStream_3c3c k r10.1 r10.2.1 r10.2.2.1 r10.2.2.2.1 r10.2.2.2.2.1 r10.2.2.2.2.2.1 r10.2.2.2.2.2.2.1 r10.2.2.2.2.2.2.2.1 1 r10.2.2.2.2.2.2.2.2.2.1 r10.2.2.2.2.2.2.2.2.2.2.1 r10.2.2.2.2.2.2.2.2.2.2.2.1 r10.2.2.2.2.2.2.2.2.2.2.2.2).bind fun r30 => (F_laws_heldStream k r30.2.1 r30.2.2.1 r10.1 r10.2.1 r10.2.2.1 r10.2.2.2.1 r10.2.2.2.2.1 r10.2.2.2.2.2.1 r10.2.2.2.2.2.2.1 r10.2.2.2.2.2.2.2.1 r30.2.2.2.1 r30.2.2.2.2 1).bind fun r31 => cond (decide (r31 < 0)) (some (false)) (cond (r31 != r30.1) (some (false)) ((F_laws_toStream k a1 a2 a3 a4 a5 a6 a7 a8 a9 a10 a11 a12).bind fun r34 => (F_laws_toActionS k a13).bind fun r35 => (F_impl_StreamRun k r34.1 r34.2.1 a3 a4 a5 a6 a7 a8 a9 a10 r34.2.2.1 r34.2.2.2 r35).bind fun r36 => (F_laws_eqStream k r36.2.2.2.2.2.2.2.2.2.1 r36.2.2.2.2.2.2.2.2.2.2.1 r36.1 r36.2.1 r36.2.2.1 r36.2.2.2.1 r36.2.2.2.2.1 r36.2.2.2.2.2.1 r36.2.2.2.2.2.2.1 r36.2.2.2.2.2.2.2.1 r36.2.2.2.2.2.2.2.2.2.2.2.1 r36.2.2.2.2.2.2.2.2.2.2.2.2 r7.2.2.2.2.2.2.2.2.2.1 r7.2.2.2.2.2.2.2.2.2.2.1 r7.1 r7.2.1 r7.2.2.1 r7.2.2.2.1 r7.2.2.2.2.1 r7.2.2.2.2.2.1 r7.2.2.2.2.2.2.1 r7.2.2.2.2.2.2.2.1 r7.2.2.2.2.2.2.2.2.2.2.2.1 r7.2.2.2.2.2.2.2.2.2.2.2.2).bind fun r38 => cond (!r38) ((F_laws_FnExactStreamRun_J37 k r10 r30) (true)) ((F_laws_FnExactStreamRun_J37 k r10 r30) (r36.2.2.2.2.2.2.2.2.1 != r7.2.2.2.2.2.2.2.2.1)))))
def F_laws_FnExactStreamRun_J11 (k : Nat) (a1 : (List (Int × (Int × Int)))) (a2 : (List Int)) (a3 : Int) (a4 : Int) (a5 : Int) (a6 : Bool) (a7 : Int) (r7 : Int × Int × Int × Bool × Int × Int × Int × Bool × Int × (List (Int × (Int × Int))) × (List Int) × (List Int) × (List Int)) (a8 : Int) (r8 : (List (Int × (Int × Int))) × (List Int) × (List Int) × (List Int)) (a9 : Int) (r9 : (List (Int × (Int × ByteArray)))) (a10 : Bool) (r10 : Int × Int × Int × Bool × Int × Int × Int × Bool × Int × (List (Int × (Int × Int))) × (List Int) × (List Int) × (List Int)) (a11 : (List Int)) (a12 : (List Int)) (a13 : (List (Int × (Int × ByteArray)))) (v13 : Bool) : Option (Bool) :=
  cond v13 (some (false)) ((F_laws_toStream k a1 a2 a3 a4 a5 a6 a7 a8 a9 a10 a11 a12).bind fun r16 => (F_laws_eqStream k r8.1 r8.2.1 a3 a4 a5 a6 a7 a8 a9 a10 r8.2.2.1 r8.2.2.2 r16.1 r16.2.1 a3 a4 a5 a6 a7 a8 a9 a10 r16.2.2.1 r16.2.2.2).bind fun r17 => cond (!r17) (some (false)) ((F_laws_toActionS k a13).bind fun r21 => (F_laws_eqActionS k r9 r21).bind fun r22 => cond (!r22) (some (false)) ((F_laws_markStream_3c3c k a3 a4 a5 a6 a7 a8 a9 a10 1 r8.1 r8.2.1 r8.2.2.1 r8.2.2.2).bind fun r24 => (F_laws_markActionS_fa3f k r24.1 r9).bind fun r25 => cond (decide (r25.1 < 0)) ((F_laws_FnExactStreamRun_J26 k a1 a2 a3 a4 a5 a6 a7 r7 a8 a9 a10 r10 a11 a12 a13) (true)) ((F_laws_eqStream k r10.2.2.2.2.2.2.2.2.2.1 r10.2.2.2.2.2.2.2.2.2.2.1 r10.1 r10.2.1 r10.2.2.1 r10.2.2.2.1 r10.2.2.2.2.1 r10.2.2.2.2.2.1 r10.2.2.2.2.2.2.1 r10.2.2.2.2.2.2.2.1 r10.2.2.2.2.2.2.2.2.2.2.2.1 r10.2.2.2.2.2.2.2.2.2.2.2.2 r7.2.2.2.2.2.2.2.2.2.1 r7.2.2.2.2.2.2.2.2.2.2.1 r7.1 r7.2.1 r7.2.2.1 r7.2.2.2.1 r7.2.2.2.2.1 r7.2.2.2.2.2.1 r7.2.2.2.2.2.2.1 r7.2.2.2.2.2.2.2.1 r7.2.2.2.2.2.2.2.2.2.2.2.1 r7.2.2.2.2.2.2.2.2.2.2.2.2).bind fun r27 => cond (!r27) ((F_laws_FnExactStreamRun_J26 k a1 a2 a3 a4 a5 a6 a7 r7 a8 a9 a10 r10 a11 a12 a13) (true)) ((F_laws_FnExactStreamRun_J26 k a1 a2 a3 a4 a5 a6 a7 r7 a8 a9 a10 r10 a11 a12 a13) (r10.2.2.2.2.2.2.2.2.1 != r7.2.2.2.2.2.2.2.2.1))))))
def F_laws_FnExactStreamRun (k : Nat) (a1 : (List (Int × (Int × Int)))) (a2 : (List Int)) (a3 : Int) (a4 : Int) (a5 : Int) (a6 : Bool) (a7 : Int) (a8 : Int) (a9 : Int) (a10 : Bool) (a11 : (List Int)) (a12 : (List Int)) (a13 : (List (Int × (Int × ByteArray)))) : Option (Bool) :=
  (F_laws_szStream k a1 a2 a3 a4 a5 a6 a7 a8 a9 a10 a11 a12 1048576).bind fun r1 => cond (decide (r1 < 0)) (some (true)) ((F_laws_szActionS k a13 r1).bind fun r3 => cond (decide (r3 < 0)) (some (true)) ((F_laws_toStream k a1 a2 a3 a4 a5 a6 a7 a8 a9 a10 a11 a12).bind fun r5 => (F_laws_toActionS k a13).bind fun r6 => (F_spec_StreamRun k r5.1 r5.2.1 a3 a4 a5 a6 a7 a8 a9 a10 r5.2.2.1 r5.2.2.2 r6).bind fun r7 => (F_laws_toStream k a1 a2 a3 a4 a5 a6 a7 a8 a9 a10 a11 a12).bind fun r8 => (F_laws_toActionS k a13).bind fun r9 => (F_impl_StreamRun k r8.1 r8.2.1 a3 a4 a5 a6 a7 a8 a9 a10 r8.2.2.1 r8.2.2.2 r9).bind fun r10 => (F_laws_eqStream k r10.2.2.2.2.2.2.2.2.2.1 r10.2.2.2.2.2.2.2.2.2.2.1 r10.1 r10.2.1 r10.2.2.1 r10.2.2.2.1 r10.2.2.2.2.1 r10.2.2.2.2.2.1 r10.2.2.2.2.2.2.1 r10.2.2.2.2.2.2.2.1 r10.2.2.2.2.2.2.2.2.2.2.2.1 r10.2.2.2.2.2.2.2.2.2.2.2.2 r7.2.2.2.2.2.2.2.2.2.1 r7.2.2.2.2.2.2.2.2.2.2.1 r7.1 r7.2.1 r7.2.2.1 r7.2.2.2.1 r7.2.2.2.2.1 r7.2.2.2.2.2.1 r7.2.2.2.2.2.2.1 r7.2.2.2.2.2.2.2.1 r7.2.2.2.2.2.2.2.2.2.2.2.1 r7.2.2.2.2.2.2.2.2.2.2.2.2).bind fun r12 => cond (!r12) ((F_laws_FnExactStreamRun_J11 k a1 a2 a3 a4 a5 a6 a7 r7 a8 r8 a9 r9 a10 r10 a11 a12 a13) (true)) ((F_laws_FnExactStreamRun_J11 k a1 a2 a3 a4 a5 a6 a7 r7 a8 r8 a9 r9 a10 r10 a11 a12 a13) (r10.2.2.2.2.2.2.2.2.1 != r7.2.2.2.2.2.2.2.2.1))))
end Go.Proofs.YtmbbapeiikifgaaGreatDoor
