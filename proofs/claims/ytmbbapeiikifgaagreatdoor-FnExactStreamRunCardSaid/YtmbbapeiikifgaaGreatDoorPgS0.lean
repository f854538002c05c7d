/- The functions do what they compute. -/
import Derived.Test.YtmbbapeiikifgaaGreatDoorSlVu
import Derived.Test.YtmbbapeiikifgaaGreatDoorSlLj
import Derived.Test.YtmbbapeiikifgaaGreatDoorShX
import Derived.Test.YtmbbapeiikifgaaGreatDoorProg
import Derived.Test.YtmbbapeiikifgaaGreatDoorPgF
import Derived.KernelRfl
set_option maxRecDepth 100000
set_option linter.all false
namespace Go.Proofs.YtmbbapeiikifgaaGreatDoor
open Go Go.Shelf
theorem keyT_138 : KeyT Tryz.prog 138 tyIII := keyT_struct (kt := 125) (el := 3) (by kernel_rfl) (by kernel_rfl) (by kernel_rfl) (by kernel_rfl) (by kernel_rfl) (fun w => by simp [zeroValue, typeInfo, program, Sem.run, show Tryz.prog.info? 3 = some (Tryz.t3) from by kernel_rfl, show Tryz.t3.zero = some (.int .i64 0) from rfl]) (fun x => by simp [keyV, encW, Instr.sameBits])
theorem S_laws_szNodeS (k : Nat) (a1 : (List (Int × (Int × Int)))) (a2 : Int) (r : Int) (hF : F_laws_szNodeS k a1 a2 = some r) : Spec Tryz.prog 87 [vV none tyIII a1, iI a2] [] (iI r) [] := by
 refine Spec.of 0 12 Tryz.func87 rfl rfl (Nat.le_of_ble_eq_true rfl) rfl fun w0 S0 Z0 M0 R0 hE => ?_
 unfold F_laws_szNodeS at hF
 refine .seq ?_
 refine .vW [] none [] trivial ?_ ?_
 refine .seq ?_
 refine .vW [] (some ([], [1, 4])) [] trivial ?_ ?_
 refine .seq ?_
 refine .seq ?_
 refine .xW [] (some ([], [1, 4, 10])) ⟨[(1, iI (w64 (a2 - (a1.length : Int)))), (4, iI 0), (10, bB (decide ((w64 (a2 - (a1.length : Int))) < 0)))], []⟩ [] trivial ?_ ?_
 rcases condE hF with ⟨he, hF⟩ | ⟨he, hF⟩
 ·
  refine .xT he ?_ ?_
  refine .seq ?_
  refine .vW [] (some ([], [1, 4])) [] trivial ?_ ?_
  cases hF
  exact .xR hE [] [] (by kernel_rfl)
  all_goals kernel_rfl
 ·
  refine .xF he ?_ ?_
  refine .skip ?_
  refine .seq ?_
  refine .vW [] (some ([], [4])) [] trivial ?_ ?_
  cases hF
  exact .xR hE [] [] (by kernel_rfl)
  all_goals kernel_rfl
 all_goals kernel_rfl
theorem S_laws_szPool (k : Nat) (a1 : (List (Int × (Int × Int)))) (a2 : Int) (r : Int) (hF : F_laws_szPool k a1 a2 = some r) : Spec Tryz.prog 47 [aG [.vw none tyIII a1], iI a2] [] (iI r) [] := by
 refine Spec.of 0 12 Tryz.func47 rfl rfl (Nat.le_of_ble_eq_true rfl) rfl fun w0 S0 Z0 M0 R0 hE => ?_
 unfold F_laws_szPool at hF
 refine .seq ?_
 refine .xW [] (some ([0], [1, 2, 4])) ⟨[(1, iI a2), (2, pT 0 0), (4, iI 0)], [.box [.vw none tyIII a1]]⟩ [] trivial ?_ ?_
 refine .seq ?_
 refine .uB [0, 1, 2] [3, 4] [] [] rfl trivial ?_ ?_
 obtain ⟨r1, h3, hF⟩ := bindE hF
 refine .uC false [] (S_laws_szNodeS k a1 a2 r1 h3) rfl ?_ ?_
 refine .vE [] (some ([], [1, 4])) [] trivial ?_ ?_
 refine .seq ?_
 refine .seq ?_
 refine .xW [] (some ([], [1, 4, 10])) ⟨[(1, iI r1), (4, iI 0), (10, bB (decide (r1 < 0)))], []⟩ [] trivial ?_ ?_
 rcases condE hF with ⟨he, hF⟩ | ⟨he, hF⟩
 ·
  refine .xT he ?_ ?_
  refine .seq ?_
  refine .vW [] (some ([], [1, 4])) [] trivial ?_ ?_
  cases hF
  exact .xR hE [] [] (by kernel_rfl)
  all_goals kernel_rfl
 ·
  refine .xF he ?_ ?_
  refine .skip ?_
  refine .seq ?_
  refine .vW [] (some ([], [4])) [] trivial ?_ ?_
  cases hF
  exact .xR hE [] [] (by kernel_rfl)
  all_goals kernel_rfl
 all_goals kernel_rfl
theorem S_laws_szIntS (k : Nat) (a1 : (List Int)) (a2 : Int) (r : Int) (hF : F_laws_szIntS k a1 a2 = some r) : Spec Tryz.prog 48 [vV none tyI a1, iI a2] [] (iI r) [] := by
 refine Spec.of 0 12 Tryz.func48 rfl rfl (Nat.le_of_ble_eq_true rfl) rfl fun w0 S0 Z0 M0 R0 hE => ?_
 unfold F_laws_szIntS at hF
 refine .seq ?_
 refine .vW [] none [] trivial ?_ ?_
 refine .seq ?_
 refine .vW [] (some ([], [1, 4])) [] trivial ?_ ?_
 refine .seq ?_
 refine .seq ?_
 refine .xW [] (some ([], [1, 4, 10])) ⟨[(1, iI (w64 (a2 - (a1.length : Int)))), (4, iI 0), (10, bB (decide ((w64 (a2 - (a1.length : Int))) < 0)))], []⟩ [] trivial ?_ ?_
 rcases condE hF with ⟨he, hF⟩ | ⟨he, hF⟩
 ·
  refine .xT he ?_ ?_
  refine .seq ?_
  refine .vW [] (some ([], [1, 4])) [] trivial ?_ ?_
  cases hF
  exact .xR hE [] [] (by kernel_rfl)
  all_goals kernel_rfl
 ·
  refine .xF he ?_ ?_
  refine .skip ?_
  refine .seq ?_
  refine .vW [] (some ([], [4])) [] trivial ?_ ?_
  cases hF
  exact .xR hE [] [] (by kernel_rfl)
  all_goals kernel_rfl
 all_goals kernel_rfl
theorem S_laws_szStream (k : Nat) (a1 : (List (Int × (Int × Int)))) (a2 : (List Int)) (a3 : Int) (a4 : Int) (a5 : Int) (a6 : Bool) (a7 : Int) (a8 : Int) (a9 : Int) (a10 : Bool) (a11 : (List Int)) (a12 : (List Int)) (a13 : Int) (r : Int) (hF : F_laws_szStream k a1 a2 a3 a4 a5 a6 a7 a8 a9 a10 a11 a12 a13 = some r) : Spec Tryz.prog 16 [aG [.vw none tyIII a1, .vw none tyI a2, ci a3, ci a4, ci a5, .bool a6, ci a7, ci a8, ci a9, .bool a10, .vw none tyI a11, .vw none tyI a12], iI a13] [] (iI r) [] := by
 refine Spec.of 0 30 Tryz.func16 rfl rfl (Nat.le_of_ble_eq_true rfl) rfl fun w0 S0 Z0 M0 R0 hE => ?_
 unfold F_laws_szStream at hF
 refine .seq ?_
 refine .xW [] (some ([0], [1, 2, 4])) ⟨[(1, iI a13), (2, pT 0 0), (4, iI 0)], [.box [.vw none tyIII a1, .vw none tyI a2, ci a3, ci a4, ci a5, .bool a6, ci a7, ci a8, ci a9, .bool a10, .vw none tyI a11, .vw none tyI a12]]⟩ [] trivial ?_ ?_
 refine .seq ?_
 refine .uB [0, 1, 2] [3, 4] [] [] rfl trivial ?_ ?_
 obtain ⟨r1, h12, hF⟩ := bindE hF
 refine .uC false [] (S_laws_szPool k a1 a13 r1 h12) rfl ?_ ?_
 refine .vE [] (some ([0], [1, 2, 4])) [] trivial ?_ ?_
 refine .seq ?_
 refine .seq ?_
 refine .xW [] (some ([0], [1, 2, 4, 10])) ⟨[(1, iI r1), (2, pT 0 0), (4, iI 0), (10, bB (decide (r1 < 0)))], [.box [.vw none tyIII a1, .vw none tyI a2, ci a3, ci a4, ci a5, .bool a6, ci a7, ci a8, ci a9, .bool a10, .vw none tyI a11, .vw none tyI a12]]⟩ [] trivial ?_ ?_
 rcases condE hF with ⟨he, hF⟩ | ⟨he, hF⟩
 ·
  refine .xT he ?_ ?_
  refine .seq ?_
  refine .vW [] (some ([0], [1, 2, 4])) [] trivial ?_ ?_
  cases hF
  exact .xR hE [] [] (by kernel_rfl)
  all_goals kernel_rfl
 ·
  refine .xF he ?_ ?_
  refine .skip ?_
  refine .seq ?_
  refine .uB [0, 1, 2] [3, 4] [] [] rfl trivial ?_ ?_
  obtain ⟨r3, h11, hF⟩ := bindE hF
  refine .uC false [] (S_laws_szIntS k a2 r1 r3 h11) rfl ?_ ?_
  refine .vE [] (some ([0], [1, 2, 4])) [] trivial ?_ ?_
  refine .seq ?_
  refine .seq ?_
  refine .xW [] (some ([0], [1, 2, 4, 16])) ⟨[(1, iI r3), (2, pT 0 0), (4, iI 0), (16, bB (decide (r3 < 0)))], [.box [.vw none tyIII a1, .vw none tyI a2, ci a3, ci a4, ci a5, .bool a6, ci a7, ci a8, ci a9, .bool a10, .vw none tyI a11, .vw none tyI a12]]⟩ [] trivial ?_ ?_
  rcases condE hF with ⟨he, hF⟩ | ⟨he, hF⟩
  ·
   refine .xT he ?_ ?_
   refine .seq ?_
   refine .vW [] (some ([0], [1, 2, 4])) [] trivial ?_ ?_
   cases hF
   exact .xR hE [] [] (by kernel_rfl)
   all_goals kernel_rfl
  ·
   refine .xF he ?_ ?_
   refine .skip ?_
   refine .seq ?_
   refine .uB [0, 1, 2] [3, 4] [] [] rfl trivial ?_ ?_
   obtain ⟨r5, h10, hF⟩ := bindE hF
   refine .uC false [] (S_laws_szIntS k a11 r3 r5 h10) rfl ?_ ?_
   refine .vE [] (some ([0], [1, 2, 4])) [] trivial ?_ ?_
   refine .seq ?_
   refine .seq ?_
   refine .xW [] (some ([0], [1, 2, 4, 22])) ⟨[(1, iI r5), (2, pT 0 0), (4, iI 0), (22, bB (decide (r5 < 0)))], [.box [.vw none tyIII a1, .vw none tyI a2, ci a3, ci a4, ci a5, .bool a6, ci a7, ci a8, ci a9, .bool a10, .vw none tyI a11, .vw none tyI a12]]⟩ [] trivial ?_ ?_
   rcases condE hF with ⟨he, hF⟩ | ⟨he, hF⟩
   ·
    refine .xT he ?_ ?_
    refine .seq ?_
    refine .vW [] (some ([0], [1, 2, 4])) [] trivial ?_ ?_
    cases hF
    exact .xR hE [] [] (by kernel_rfl)
    all_goals kernel_rfl
   ·
    refine .xF he ?_ ?_
    refine .skip ?_
    refine .seq ?_
    refine .uB [0, 1, 2] [3, 4] [] [] rfl trivial ?_ ?_
    obtain ⟨r7, h9, hF⟩ := bindE hF
    refine .uC false [] (S_laws_szIntS k a12 r5 r7 h9) rfl ?_ ?_
    refine .vE [] (some ([], [1, 4])) [] trivial ?_ ?_
    refine .seq ?_
    refine .seq ?_
    refine .xW [] (some ([], [1, 4, 28])) ⟨[(1, iI r7), (4, iI 0), (28, bB (decide (r7 < 0)))], []⟩ [] trivial ?_ ?_
    rcases condE hF with ⟨he, hF⟩ | ⟨he, hF⟩
    ·
     refine .xT he ?_ ?_
     refine .seq ?_
     refine .vW [] (some ([], [1, 4])) [] trivial ?_ ?_
     cases hF
     exact .xR hE [] [] (by kernel_rfl)
     all_goals kernel_rfl
    ·
     refine .xF he ?_ ?_
     refine .skip ?_
     refine .seq ?_
     refine .vW [] (some ([], [4])) [] trivial ?_ ?_
     cases hF
     exact .xR hE [] [] (by kernel_rfl)
     all_goals kernel_rfl
    all_goals kernel_rfl
   all_goals kernel_rfl
  all_goals kernel_rfl
 all_goals kernel_rfl
theorem S_laws_szAction (k : Nat) (a1 : Int) (a2 : Int) (a3 : ByteArray) (a4 : Int) (r : Int) (hF : F_laws_szAction k a1 a2 a3 a4 = some r) : Spec Tryz.prog 17 [aG [ci a1, ci a2, .str a3], iI a4] [] (iI r) [] := by
 refine Spec.of 0 13 Tryz.func17 rfl rfl (Nat.le_of_ble_eq_true rfl) rfl fun w0 S0 Z0 M0 R0 hE => ?_
 unfold F_laws_szAction at hF
 refine .seq ?_
 refine .vW [] (some ([0], [1, 2, 4])) [] trivial ?_ ?_
 refine .seq ?_
 refine .vW [] (some ([], [1, 4])) [] trivial ?_ ?_
 refine .seq ?_
 refine .seq ?_
 refine .xW [] (some ([], [1, 4, 11])) ⟨[(1, iI (w64 (a4 - (a3.size : Int)))), (4, iI 0), (11, bB (decide ((w64 (a4 - (a3.size : Int))) < 0)))], []⟩ [] trivial ?_ ?_
 rcases condE hF with ⟨he, hF⟩ | ⟨he, hF⟩
 ·
  refine .xT he ?_ ?_
  refine .seq ?_
  refine .vW [] (some ([], [1, 4])) [] trivial ?_ ?_
  cases hF
  exact .xR hE [] [] (by kernel_rfl)
  all_goals kernel_rfl
 ·
  refine .xF he ?_ ?_
  refine .skip ?_
  refine .seq ?_
  refine .vW [] (some ([], [4])) [] trivial ?_ ?_
  cases hF
  exact .xR hE [] [] (by kernel_rfl)
  all_goals kernel_rfl
 all_goals kernel_rfl
theorem S_laws_szActionS (k : Nat) (a1 : (List (Int × (Int × ByteArray)))) (a2 : Int) (r : Int) (hF : F_laws_szActionS k a1 a2 = some r) : Spec Tryz.prog 23 [vV none tyIIS a1, iI a2] [] (iI r) [] := by
 refine Spec.of 0 27 Tryz.func23 rfl rfl (Nat.le_of_ble_eq_true rfl) rfl fun w0 S0 Z0 M0 R0 hE => ?_
 unfold F_laws_szActionS at hF
 refine .seq ?_
 refine .vW [] none [] trivial ?_ ?_
 refine .seq ?_
 refine .vW [] (some ([], [0, 1, 4])) [] trivial ?_ ?_
 refine .seq ?_
 refine .seq ?_
 refine .xW [] (some ([], [0, 1, 4, 11])) ⟨[(0, vV none tyIIS a1), (1, iI (w64 (a2 - (a1.length : Int)))), (4, iI 0), (11, bB (decide ((w64 (a2 - (a1.length : Int))) < 0)))], []⟩ [] trivial ?_ ?_
 rcases condE hF with ⟨he, hF⟩ | ⟨he, hF⟩
 ·
  refine .xT he ?_ ?_
  refine .seq ?_
  refine .vW [] (some ([], [0, 1, 4])) [] trivial ?_ ?_
  cases hF
  exact .xR hE [] [] (by kernel_rfl)
  all_goals kernel_rfl
 ·
  refine .xF he ?_ ?_
  refine .skip ?_
  refine .seq ?_
  refine .seq ?_
  refine .xW [] (some ([], [0, 1, 4, 5])) ⟨[(0, vV none tyIIS a1), (1, iI (w64 (a2 - (a1.length : Int)))), (4, iI 0), (5, iI 0)], []⟩ [] trivial ?_ ?_
  refine WT.join (f := fun v16 => F_laws_szActionS_J2 k v16) (r := r) (S := fun v16 => ⟨[(1, iI v16), (4, iI 0)], []⟩) (fun v16 hF => ?_) (fun hJJ2 => ?_)
  ·
   unfold F_laws_szActionS_J2 at hF
   refine .seq ?_
   refine .vW [] (some ([], [4])) [] trivial ?_ ?_
   cases hF
   exact .xR hE [] [] (by kernel_rfl)
   all_goals kernel_rfl
  ·
   refine .block ?_
   refine WT.xL (fun s10 => ⟨[(0, vV none tyIIS a1), (1, iI s10.1), (4, iI 0), (5, iI s10.2)], []⟩) (l := fun n x => F_laws_szActionS_L3 k a1 (F_laws_szActionS_J2 k) n x) (r := r) [.pick [] [0, 1, 4, 5]] (w64 (a2 - (a1.length : Int)), 0) k hF (fun _ => rfl) (fun nL3 s10 ih hF => ?_) ?_
   dsimp only [F_laws_szActionS_L3] at hF
   refine .seq ?_
   refine .seq ?_
   refine .xW [] (some ([], [0, 1, 4, 5, 15])) ⟨[(0, vV none tyIIS a1), (1, iI s10.1), (4, iI 0), (5, iI s10.2), (15, bB (decide (s10.2 < (a1.length : Int))))], []⟩ [] trivial ?_ ?_
   rcases condE hF with ⟨he, hF⟩ | ⟨he, hF⟩
   ·
    refine .xT he ?_ ?_
    refine .skip ?_
    refine .seq ?_
    refine .block ?_
    refine .seq ?_
    obtain ⟨x13, h19, hF⟩ := bindE hF
    refine .uB [0, 1, 2, 3, 4] [5, 6] [.el tyIIS x13] [at? a1 s10.2 = some x13] rfl ⟨h19, trivial⟩ ?_ ?_
    obtain ⟨r14, h20, hF⟩ := bindE hF
    refine .uC false [] (S_laws_szAction k x13.1 x13.2.1 x13.2.2 s10.1 r14 h20) rfl ?_ ?_
    refine .vE [] (some ([], [0, 1, 4, 5])) [] trivial ?_ ?_
    refine .seq ?_
    refine .xW [] (some ([], [0, 1, 4, 5, 25])) ⟨[(0, vV none tyIIS a1), (1, iI r14), (4, iI 0), (5, iI s10.2), (25, bB (decide (r14 < 0)))], []⟩ [] trivial ?_ ?_
    rcases condE hF with ⟨he, hF⟩ | ⟨he, hF⟩
    ·
     refine .xT he ?_ ?_
     refine .seq ?_
     refine .vW [] (some ([], [0, 1, 4, 5])) [] trivial ?_ ?_
     cases hF
     exact .xR hE [] [] (by kernel_rfl)
     all_goals kernel_rfl
    ·
     refine .xF he ?_ ?_
     refine .skip ?_
     refine .inBlock ?_
     refine .vW [] (some ([], [0, 1, 4, 5])) [] trivial ?_ ?_
     exact .xS [.pick [] [0, 1, 4, 5]] (ih (r14, w64 (s10.2 + 1)) hF) (by kernel_rfl)
     all_goals kernel_rfl
    all_goals kernel_rfl
   ·
    refine .xF he ?_ ?_
    refine .exit rfl ?_
    exact .xS [.pick [] [1, 4]] (hJJ2 (s10.1) hF) (by kernel_rfl)
    all_goals kernel_rfl
   all_goals kernel_rfl
  all_goals kernel_rfl
 all_goals kernel_rfl
theorem S_laws_toNode (k : Nat) (a1 : Int) (a2 : Int) (a3 : Int) (r : Unit) (hF : F_laws_toNode k a1 a2 a3 = some r) : Spec Tryz.prog 115 [aG [ci a1, ci a2, ci a3]] [] (aG [ci a1, ci a2, ci a3]) [] := by
 refine Spec.of 0 14 Tryz.func115 rfl rfl (Nat.le_of_ble_eq_true rfl) rfl fun w0 S0 Z0 M0 R0 hE => ?_
 unfold F_laws_toNode at hF
 refine .seq ?_
 refine .vW [] (some ([0, 1], [1, 2])) [] trivial ?_ ?_
 refine .seq ?_
 refine .vW [] none [] trivial ?_ ?_
 refine .seq ?_
 refine .vW [] (some ([0, 1, 2], [1, 2, 3])) [] trivial ?_ ?_
 refine .seq ?_
 refine .xW [] (some ([0, 1, 2], [1, 2, 3])) ⟨[(1, pT 0 0), (2, pT 1 0), (3, pT 2 0)], [.box [ci a1, ci a2, ci a3], .box [ci 0, ci 0, ci 0], .box [ci a1, ci a2, ci 0]]⟩ [] trivial ?_ ?_
 refine .seq ?_
 refine .vW [] (some ([1, 2], [2, 3])) [] trivial ?_ ?_
 refine .seq ?_
 refine .vW [] (some ([0], [2])) [] trivial ?_ ?_
 cases hF
 exact .xR hE [] [] (by kernel_rfl)
 all_goals kernel_rfl
theorem S_laws_toNodeS (k : Nat) (a1 : (List (Int × (Int × Int)))) (r : (List (Int × (Int × Int)))) (hF : F_laws_toNodeS k a1 = some r) : Spec Tryz.prog 88 [vV none tyIII a1] [] (sL 0) [.row tyIII r] := by
 refine Spec.of 0 23 Tryz.func88 rfl rfl (Nat.le_of_ble_eq_true rfl) rfl fun w0 S0 Z0 M0 R0 hE => ?_
 unfold F_laws_toNodeS at hF
 refine .seq ?_
 refine .vW [] none [] trivial ?_ ?_
 refine .seq ?_
 obtain ⟨h16, hF⟩ := iteE hF
 refine .vW [.el tyIII (0, (0, 0))] (some ([0], [0, 2, 3])) [(0 : Int) ≤ (a1.length : Int) ∧ ((a1.length : Int) : Int) ≤ (a1.length : Int) ∧ ((a1.length : Int) : Int) ≤ 1099511627776] ⟨h16, trivial⟩ ?_ ?_
 refine .seq ?_
 refine .seq ?_
 refine .xW [] none ⟨[(4, iI 0), (0, vV none tyIII a1), (2, .p (.c (.nilsl))), (3, sL 0)], [.row tyIII (List.replicate (Int.toNat (a1.length : Int)) (0, (0, 0)))]⟩ [] trivial ?_ ?_
 refine WT.join (f := fun v15 => F_laws_toNodeS_J1 k v15) (r := r) (S := fun v15 => ⟨[(2, .p (.c (.nilsl))), (3, sL 0)], [.row tyIII v15]⟩) (fun v15 hF => ?_) (fun hJJ1 => ?_)
 ·
  unfold F_laws_toNodeS_J1 at hF
  refine .seq ?_
  refine .vW [] (some ([0], [2])) [] trivial ?_ ?_
  cases hF
  exact .xR hE [] [0] (by kernel_rfl)
  all_goals kernel_rfl
 ·
  refine .block ?_
  refine WT.xL (fun s9 => ⟨[(0, vV none tyIII a1), (2, .p (.c (.nilsl))), (3, sL 0), (4, iI s9.1)], [.row tyIII s9.2]⟩) (l := fun n x => F_laws_toNodeS_L2 k a1 (F_laws_toNodeS_J1 k) n x) (r := r) [.pick [0] [0, 2, 3, 4]] (0, List.replicate (Int.toNat (a1.length : Int)) (0, (0, 0))) k hF (fun _ => rfl) (fun nL2 s9 ih hF => ?_) ?_
  dsimp only [F_laws_toNodeS_L2] at hF
  refine .seq ?_
  refine .seq ?_
  refine .xW [] (some ([0], [0, 2, 3, 4, 11])) ⟨[(0, vV none tyIII a1), (2, .p (.c (.nilsl))), (3, sL 0), (4, iI s9.1), (11, bB (decide (s9.1 < (a1.length : Int))))], [.row tyIII s9.2]⟩ [] trivial ?_ ?_
  rcases condE hF with ⟨he, hF⟩ | ⟨he, hF⟩
  ·
   refine .xT he ?_ ?_
   refine .skip ?_
   refine .seq ?_
   refine .block ?_
   obtain ⟨x12, h20, hF⟩ := bindE hF
   refine .uB [0, 1, 2, 3, 4, 5] [6, 7, 8] [.el tyIII x12] [at? a1 s9.1 = some x12] rfl ⟨h20, trivial⟩ ?_ ?_
   obtain ⟨r13, h22, hF⟩ := bindE hF
   refine .uC false [] (S_laws_toNode k x12.1 x12.2.1 x12.2.2 r13 h22) rfl ?_ ?_
   obtain ⟨x14, h21, hF⟩ := bindE hF
   refine .vE [.el tyIII x14] (some ([0], [0, 2, 3, 4])) [at? s9.2 s9.1 = some x14] ⟨h21, trivial⟩ ?_ ?_
   refine .inBlock ?_
   refine .vW [] (some ([0], [0, 2, 3, 4])) [] trivial ?_ ?_
   exact .xS [.pick [0] [0, 2, 3, 4]] (ih (w64 (s9.1 + 1), s9.2.set ((s9.1).toNat) (x12.1, (x12.2.1, x12.2.2))) hF) (by kernel_rfl)
   all_goals kernel_rfl
  ·
   refine .xF he ?_ ?_
   refine .exit rfl ?_
   exact .xS [.pick [0] [2, 3]] (hJJ1 (s9.2) hF) (by kernel_rfl)
   all_goals kernel_rfl
  all_goals kernel_rfl
 all_goals kernel_rfl
theorem S_laws_toPool (k : Nat) (a1 : (List (Int × (Int × Int)))) (r : (List (Int × (Int × Int)))) (hF : F_laws_toPool k a1 = some r) : Spec Tryz.prog 49 [aG [.vw none tyIII a1]] [] (aG [.sl 0]) [.row tyIII r] := by
 refine Spec.of 0 9 Tryz.func49 rfl rfl (Nat.le_of_ble_eq_true rfl) rfl fun w0 S0 Z0 M0 R0 hE => ?_
 unfold F_laws_toPool at hF
 refine .seq ?_
 refine .vW [] (some ([0, 1], [1, 2])) [] trivial ?_ ?_
 refine .seq ?_
 refine .xW [] none ⟨[(3, pT 2 0), (1, pT 0 0), (2, pT 1 0)], [.box [.vw none tyIII a1], .box [.nilsl], .box [.nilsl]]⟩ [] trivial ?_ ?_
 refine .seq ?_
 refine .uB [0, 1] [2, 3, 4] [] [] rfl trivial ?_ ?_
 obtain ⟨r1, h2, hF⟩ := bindE hF
 refine .uC false [] (S_laws_toNodeS k a1 r1 h2) rfl ?_ ?_
 refine .vE [] (some ([1, 2, 3], [2, 3])) [] trivial ?_ ?_
 refine .seq ?_
 refine .vW [] (some ([0, 2], [2])) [] trivial ?_ ?_
 cases hF
 exact .xR hE [] [1] (by kernel_rfl)
 all_goals kernel_rfl
theorem S_laws_toIntS (k : Nat) (a1 : (List Int)) (r : (List Int)) (hF : F_laws_toIntS k a1 = some r) : Spec Tryz.prog 50 [vV none tyI a1] [] (sL 0) [.row tyI r] := by
 refine Spec.of 0 22 Tryz.func50 rfl rfl (Nat.le_of_ble_eq_true rfl) rfl fun w0 S0 Z0 M0 R0 hE => ?_
 unfold F_laws_toIntS at hF
 refine .seq ?_
 refine .vW [] none [] trivial ?_ ?_
 refine .seq ?_
 obtain ⟨h14, hF⟩ := iteE hF
 refine .vW [.el tyI 0] (some ([0], [0, 2, 3])) [(0 : Int) ≤ (a1.length : Int) ∧ ((a1.length : Int) : Int) ≤ (a1.length : Int) ∧ ((a1.length : Int) : Int) ≤ 1099511627776] ⟨h14, trivial⟩ ?_ ?_
 refine .seq ?_
 refine .seq ?_
 refine .xW [] none ⟨[(4, iI 0), (0, vV none tyI a1), (2, .p (.c (.nilsl))), (3, sL 0)], [.row tyI (List.replicate (Int.toNat (a1.length : Int)) 0)]⟩ [] trivial ?_ ?_
 refine WT.join (f := fun v13 => F_laws_toIntS_J1 k v13) (r := r) (S := fun v13 => ⟨[(2, .p (.c (.nilsl))), (3, sL 0)], [.row tyI v13]⟩) (fun v13 hF => ?_) (fun hJJ1 => ?_)
 ·
  unfold F_laws_toIntS_J1 at hF
  refine .seq ?_
  refine .vW [] (some ([0], [2])) [] trivial ?_ ?_
  cases hF
  exact .xR hE [] [0] (by kernel_rfl)
  all_goals kernel_rfl
 ·
  refine .block ?_
  refine WT.xL (fun s8 => ⟨[(0, vV none tyI a1), (2, .p (.c (.nilsl))), (3, sL 0), (4, iI s8.1)], [.row tyI s8.2]⟩) (l := fun n x => F_laws_toIntS_L2 k a1 (F_laws_toIntS_J1 k) n x) (r := r) [.pick [0] [0, 2, 3, 4]] (0, List.replicate (Int.toNat (a1.length : Int)) 0) k hF (fun _ => rfl) (fun nL2 s8 ih hF => ?_) ?_
  dsimp only [F_laws_toIntS_L2] at hF
  refine .seq ?_
  refine .seq ?_
  refine .xW [] (some ([0], [0, 2, 3, 4, 11])) ⟨[(0, vV none tyI a1), (2, .p (.c (.nilsl))), (3, sL 0), (4, iI s8.1), (11, bB (decide (s8.1 < (a1.length : Int))))], [.row tyI s8.2]⟩ [] trivial ?_ ?_
  rcases condE hF with ⟨he, hF⟩ | ⟨he, hF⟩
  ·
   refine .xT he ?_ ?_
   refine .skip ?_
   refine .seq ?_
   refine .block ?_
   obtain ⟨x11, h17, hF⟩ := bindE hF
   obtain ⟨x12, h18, hF⟩ := bindE hF
   refine .vW [.el tyI x11, .el tyI x12] (some ([0], [0, 2, 3, 4])) [at? a1 s8.1 = some x11, at? s8.2 s8.1 = some x12] ⟨h17, h18, trivial⟩ ?_ ?_
   refine .inBlock ?_
   refine .vW [] (some ([0], [0, 2, 3, 4])) [] trivial ?_ ?_
   exact .xS [.pick [0] [0, 2, 3, 4]] (ih (w64 (s8.1 + 1), s8.2.set ((s8.1).toNat) x11) hF) (by kernel_rfl)
   all_goals kernel_rfl
  ·
   refine .xF he ?_ ?_
   refine .exit rfl ?_
   exact .xS [.pick [0] [2, 3]] (hJJ1 (s8.2) hF) (by kernel_rfl)
   all_goals kernel_rfl
  all_goals kernel_rfl
 all_goals kernel_rfl
theorem S_laws_toLink (k : Nat) (a1 : Int) (a2 : Int) (a3 : Int) (a4 : Bool) (r : Unit) (hF : F_laws_toLink k a1 a2 a3 a4 = some r) : Spec Tryz.prog 51 [aG [ci a1, ci a2, ci a3, .bool a4]] [] (aG [ci a1, ci a2, ci a3, .bool a4]) [] := by
 refine Spec.of 0 17 Tryz.func51 rfl rfl (Nat.le_of_ble_eq_true rfl) rfl fun w0 S0 Z0 M0 R0 hE => ?_
 unfold F_laws_toLink at hF
 refine .seq ?_
 refine .vW [] (some ([0, 1], [1, 2])) [] trivial ?_ ?_
 refine .seq ?_
 refine .vW [] none [] trivial ?_ ?_
 refine .seq ?_
 refine .vW [] (some ([0, 1, 2], [1, 2, 3])) [] trivial ?_ ?_
 refine .seq ?_
 refine .xW [] (some ([0, 1, 2], [1, 2, 3])) ⟨[(1, pT 0 0), (2, pT 1 0), (3, pT 2 0)], [.box [ci a1, ci a2, ci a3, .bool a4], .box [ci 0, ci 0, ci 0, .bool false], .box [ci a1, ci a2, ci 0, .bool false]]⟩ [] trivial ?_ ?_
 refine .seq ?_
 refine .vW [] (some ([0, 1, 2], [1, 2, 3])) [] trivial ?_ ?_
 refine .seq ?_
 refine .vW [] (some ([1, 2], [2, 3])) [] trivial ?_ ?_
 refine .seq ?_
 refine .vW [] (some ([0], [2])) [] trivial ?_ ?_
 cases hF
 exact .xR hE [] [] (by kernel_rfl)
 all_goals kernel_rfl
theorem S_laws_toStream (k : Nat) (a1 : (List (Int × (Int × Int)))) (a2 : (List Int)) (a3 : Int) (a4 : Int) (a5 : Int) (a6 : Bool) (a7 : Int) (a8 : Int) (a9 : Int) (a10 : Bool) (a11 : (List Int)) (a12 : (List Int)) (r : (List (Int × (Int × Int))) × (List Int) × (List Int) × (List Int)) (hF : F_laws_toStream k a1 a2 a3 a4 a5 a6 a7 a8 a9 a10 a11 a12 = some r) : Spec Tryz.prog 18 [aG [.vw none tyIII a1, .vw none tyI a2, ci a3, ci a4, ci a5, .bool a6, ci a7, ci a8, ci a9, .bool a10, .vw none tyI a11, .vw none tyI a12]] [] (aG [.sl 0, .sl 1, ci a3, ci a4, ci a5, .bool a6, ci a7, ci a8, ci a9, .bool a10, .sl 2, .sl 3]) [.row tyIII r.1, .row tyI r.2.1, .row tyI r.2.2.1, .row tyI r.2.2.2] := by
 refine Spec.of 0 29 Tryz.func18 rfl rfl (Nat.le_of_ble_eq_true rfl) rfl fun w0 S0 Z0 M0 R0 hE => ?_
 unfold F_laws_toStream at hF
 refine .seq ?_
 refine .vW [] (some ([0, 1], [1, 2])) [] trivial ?_ ?_
 refine .seq ?_
 refine .xW [] none ⟨[(3, pT 2 0), (1, pT 0 0), (2, pT 1 0)], [.box [.vw none tyIII a1, .vw none tyI a2, ci a3, ci a4, ci a5, .bool a6, ci a7, ci a8, ci a9, .bool a10, .vw none tyI a11, .vw none tyI a12], .box [.nilsl, .nilsl, ci 0, ci 0, ci 0, .bool false, ci 0, ci 0, ci 0, .bool false, .nilsl, .nilsl], .box [.nilsl, .nilsl, ci 0, ci 0, ci 0, .bool false, ci 0, ci 0, ci 0, .bool false, .nilsl, .nilsl]]⟩ [] trivial ?_ ?_
 refine .seq ?_
 refine .uB [0, 1] [2, 3, 4] [] [] rfl trivial ?_ ?_
 obtain ⟨r1, h12, hF⟩ := bindE hF
 refine .uC false [] (S_laws_toPool k a1 r1 h12) rfl ?_ ?_
 refine .vE [] (some ([0, 1, 2, 3], [1, 2, 3])) [] trivial ?_ ?_
 refine .seq ?_
 refine .uB [0, 1] [2, 3, 4] [] [] rfl trivial ?_ ?_
 obtain ⟨r2, h11, hF⟩ := bindE hF
 refine .uC false [] (S_laws_toIntS k a2 r2 h11) rfl ?_ ?_
 refine .vE [] (some ([0, 1, 2, 3, 4], [1, 2, 3])) [] trivial ?_ ?_
 refine .seq ?_
 refine .uB [0, 1] [2, 3, 4] [] [] rfl trivial ?_ ?_
 obtain ⟨r3, h10, hF⟩ := bindE hF
 refine .uC false [] (S_laws_toLink k a3 a4 a5 a6 r3 h10) rfl ?_ ?_
 refine .vE [] (some ([0, 1, 2, 3, 4], [1, 2, 3])) [] trivial ?_ ?_
 refine .seq ?_
 refine .uB [0, 1] [2, 3, 4] [] [] rfl trivial ?_ ?_
 obtain ⟨r4, h9, hF⟩ := bindE hF
 refine .uC false [] (S_laws_toLink k a7 a8 a9 a10 r4 h9) rfl ?_ ?_
 refine .xE [] (some ([0, 1, 2, 3, 4], [1, 2, 3])) ⟨[(1, pT 0 0), (2, pT 1 0), (3, pT 2 0)], [.box [.vw none tyIII a1, .vw none tyI a2, ci a3, ci a4, ci a5, .bool a6, ci a7, ci a8, ci a9, .bool a10, .vw none tyI a11, .vw none tyI a12], .box [.nilsl, .nilsl, ci 0, ci 0, ci 0, .bool false, ci 0, ci 0, ci 0, .bool false, .nilsl, .nilsl], .box [.sl 3, .sl 4, ci a3, ci a4, ci a5, .bool a6, ci a7, ci a8, ci a9, .bool a10, .nilsl, .nilsl], .row tyIII r1, .row tyI r2]⟩ [] trivial ?_ ?_
 refine .seq ?_
 refine .uB [0, 1] [2, 3, 4] [] [] rfl trivial ?_ ?_
 obtain ⟨r5, h8, hF⟩ := bindE hF
 refine .uC false [] (S_laws_toIntS k a11 r5 h8) rfl ?_ ?_
 refine .vE [] (some ([0, 1, 2, 3, 4, 5], [1, 2, 3])) [] trivial ?_ ?_
 refine .seq ?_
 refine .uB [0, 1] [2, 3, 4] [] [] rfl trivial ?_ ?_
 obtain ⟨r6, h7, hF⟩ := bindE hF
 refine .uC false [] (S_laws_toIntS k a12 r6 h7) rfl ?_ ?_
 refine .vE [] (some ([1, 2, 3, 4, 5, 6], [2, 3])) [] trivial ?_ ?_
 refine .seq ?_
 refine .vW [] (some ([0, 2, 3, 4, 5], [2])) [] trivial ?_ ?_
 cases hF
 exact .xR hE [] [1, 2, 3, 4] (by kernel_rfl)
 all_goals kernel_rfl
theorem S_laws_toAction (k : Nat) (a1 : Int) (a2 : Int) (a3 : ByteArray) (r : Unit) (hF : F_laws_toAction k a1 a2 a3 = some r) : Spec Tryz.prog 19 [aG [ci a1, ci a2, .str a3]] [] (aG [ci a1, ci a2, .str a3]) [] := by
 refine Spec.of 0 14 Tryz.func19 rfl rfl (Nat.le_of_ble_eq_true rfl) rfl fun w0 S0 Z0 M0 R0 hE => ?_
 unfold F_laws_toAction at hF
 refine .seq ?_
 refine .vW [] (some ([0, 1], [1, 2])) [] trivial ?_ ?_
 refine .seq ?_
 refine .vW [] none [] trivial ?_ ?_
 refine .seq ?_
 refine .vW [] (some ([0, 1, 2], [1, 2, 3])) [] trivial ?_ ?_
 refine .seq ?_
 refine .xW [] (some ([0, 1, 2], [1, 2, 3])) ⟨[(1, pT 0 0), (2, pT 1 0), (3, pT 2 0)], [.box [ci a1, ci a2, .str a3], .box [ci 0, ci 0, .str (⟨#[]⟩ : ByteArray)], .box [ci a1, ci a2, .str (⟨#[]⟩ : ByteArray)]]⟩ [] trivial ?_ ?_
 refine .seq ?_
 refine .vW [] (some ([1, 2], [2, 3])) [] trivial ?_ ?_
 refine .seq ?_
 refine .vW [] (some ([0], [2])) [] trivial ?_ ?_
 cases hF
 exact .xR hE [] [] (by kernel_rfl)
 all_goals kernel_rfl
theorem S_laws_toActionS (k : Nat) (a1 : (List (Int × (Int × ByteArray)))) (r : (List (Int × (Int × ByteArray)))) (hF : F_laws_toActionS k a1 = some r) : Spec Tryz.prog 25 [vV none tyIIS a1] [] (sL 0) [.row tyIIS r] := by
 refine Spec.of 0 23 Tryz.func25 rfl rfl (Nat.le_of_ble_eq_true rfl) rfl fun w0 S0 Z0 M0 R0 hE => ?_
 unfold F_laws_toActionS at hF
 refine .seq ?_
 refine .vW [] none [] trivial ?_ ?_
 refine .seq ?_
 obtain ⟨h16, hF⟩ := iteE hF
 refine .vW [.el tyIIS (0, (0, (⟨#[]⟩ : ByteArray)))] (some ([0], [0, 2, 3])) [(0 : Int) ≤ (a1.length : Int) ∧ ((a1.length : Int) : Int) ≤ (a1.length : Int) ∧ ((a1.length : Int) : Int) ≤ 1099511627776] ⟨h16, trivial⟩ ?_ ?_
 refine .seq ?_
 refine .seq ?_
 refine .xW [] none ⟨[(4, iI 0), (0, vV none tyIIS a1), (2, .p (.c (.nilsl))), (3, sL 0)], [.row tyIIS (List.replicate (Int.toNat (a1.length : Int)) (0, (0, (⟨#[]⟩ : ByteArray))))]⟩ [] trivial ?_ ?_
 refine WT.join (f := fun v15 => F_laws_toActionS_J1 k v15) (r := r) (S := fun v15 => ⟨[(2, .p (.c (.nilsl))), (3, sL 0)], [.row tyIIS v15]⟩) (fun v15 hF => ?_) (fun hJJ1 => ?_)
 ·
  unfold F_laws_toActionS_J1 at hF
  refine .seq ?_
  refine .vW [] (some ([0], [2])) [] trivial ?_ ?_
  cases hF
  exact .xR hE [] [0] (by kernel_rfl)
  all_goals kernel_rfl
 ·
  refine .block ?_
  refine WT.xL (fun s9 => ⟨[(0, vV none tyIIS a1), (2, .p (.c (.nilsl))), (3, sL 0), (4, iI s9.1)], [.row tyIIS s9.2]⟩) (l := fun n x => F_laws_toActionS_L2 k a1 (F_laws_toActionS_J1 k) n x) (r := r) [.pick [0] [0, 2, 3, 4]] (0, List.replicate (Int.toNat (a1.length : Int)) (0, (0, (⟨#[]⟩ : ByteArray)))) k hF (fun _ => rfl) (fun nL2 s9 ih hF => ?_) ?_
  dsimp only [F_laws_toActionS_L2] at hF
  refine .seq ?_
  refine .seq ?_
  refine .xW [] (some ([0], [0, 2, 3, 4, 11])) ⟨[(0, vV none tyIIS a1), (2, .p (.c (.nilsl))), (3, sL 0), (4, iI s9.1), (11, bB (decide (s9.1 < (a1.length : Int))))], [.row tyIIS s9.2]⟩ [] trivial ?_ ?_
  rcases condE hF with ⟨he, hF⟩ | ⟨he, hF⟩
  ·
   refine .xT he ?_ ?_
   refine .skip ?_
   refine .seq ?_
   refine .block ?_
   obtain ⟨x12, h20, hF⟩ := bindE hF
   refine .uB [0, 1, 2, 3, 4, 5] [6, 7, 8] [.el tyIIS x12] [at? a1 s9.1 = some x12] rfl ⟨h20, trivial⟩ ?_ ?_
   obtain ⟨r13, h22, hF⟩ := bindE hF
   refine .uC false [] (S_laws_toAction k x12.1 x12.2.1 x12.2.2 r13 h22) rfl ?_ ?_
   obtain ⟨x14, h21, hF⟩ := bindE hF
   refine .vE [.el tyIIS x14] (some ([0], [0, 2, 3, 4])) [at? s9.2 s9.1 = some x14] ⟨h21, trivial⟩ ?_ ?_
   refine .inBlock ?_
   refine .vW [] (some ([0], [0, 2, 3, 4])) [] trivial ?_ ?_
   exact .xS [.pick [0] [0, 2, 3, 4]] (ih (w64 (s9.1 + 1), s9.2.set ((s9.1).toNat) (x12.1, (x12.2.1, x12.2.2))) hF) (by kernel_rfl)
   all_goals kernel_rfl
  ·
   refine .xF he ?_ ?_
   refine .exit rfl ?_
   exact .xS [.pick [0] [2, 3]] (hJJ1 (s9.2) hF) (by kernel_rfl)
   all_goals kernel_rfl
  all_goals kernel_rfl
 all_goals kernel_rfl
theorem S_spec_l1Copy (k : Nat) (a1 : (List (Int × (Int × Int)))) (r : Unit) (hF : F_spec_l1Copy k a1 = some r) : Spec Tryz.prog 72 [aG [.vw none tyIII a1]] [] (aG [.sl 0]) [.row tyIII (([] : List (Int × (Int × Int))) ++ a1)] := by
 refine Spec.of 0 8 Tryz.func72 rfl rfl (Nat.le_of_ble_eq_true rfl) rfl fun w0 S0 Z0 M0 R0 hE => ?_
 unfold F_spec_l1Copy at hF
 refine .seq ?_
 refine .xW [] (some ([0, 1], [1, 2])) ⟨[(1, pT 0 0), (2, pT 1 0)], [.box [.vw none tyIII a1], .box [.nilsl]]⟩ [] trivial ?_ ?_
 refine .seq ?_
 refine .uB [0, 1, 2] [3, 4, 5] [.el tyIII (0, (0, 0))] [] rfl trivial ?_ ?_
 obtain ⟨h1, hF⟩ := iteE hF
 refine .uO [.tmp 3, .tmp 5] false [.whole 2] (append_view (d := tyIII) (xs := ([] : List (Int × (Int × Int)))) (ys := a1) rfl (by kernel_rfl) (by kernel_rfl) h1) rfl ?_ ?_
 refine .vE [] (some ([1, 3], [2])) [] trivial ?_ ?_
 cases hF
 exact .xR hE [] [1] (by kernel_rfl)
 all_goals kernel_rfl
theorem S_spec_l19Copy (k : Nat) (a1 : (List (Int × (Int × Int)))) (a2 : (List Int)) (a3 : Int) (a4 : Int) (a5 : Int) (a6 : Bool) (a7 : Int) (a8 : Int) (a9 : Int) (a10 : Bool) (a11 : (List Int)) (a12 : (List Int)) (r : Unit) (hF : F_spec_l19Copy k a1 a2 a3 a4 a5 a6 a7 a8 a9 a10 a11 a12 = some r) : Spec Tryz.prog 36 [aG [.vw none tyIII a1, .vw none tyI a2, ci a3, ci a4, ci a5, .bool a6, ci a7, ci a8, ci a9, .bool a10, .vw none tyI a11, .vw none tyI a12]] [] (aG [.sl 0, .sl 1, ci a3, ci a4, ci a5, .bool a6, ci a7, ci a8, ci a9, .bool a10, .sl 2, .sl 3]) [.row tyIII (([] : List (Int × (Int × Int))) ++ a1), .row tyI (([] : List Int) ++ a2), .row tyI (([] : List Int) ++ a11), .row tyI (([] : List Int) ++ a12)] := by
 refine Spec.of 0 23 Tryz.func36 rfl rfl (Nat.le_of_ble_eq_true rfl) rfl fun w0 S0 Z0 M0 R0 hE => ?_
 unfold F_spec_l19Copy at hF
 refine .seq ?_
 refine .xW [] (some ([0, 1], [1, 2])) ⟨[(1, pT 0 0), (2, pT 1 0)], [.box [.vw none tyIII a1, .vw none tyI a2, ci a3, ci a4, ci a5, .bool a6, ci a7, ci a8, ci a9, .bool a10, .vw none tyI a11, .vw none tyI a12], .box [.nilsl, .nilsl, ci 0, ci 0, ci 0, .bool false, ci 0, ci 0, ci 0, .bool false, .nilsl, .nilsl]]⟩ [] trivial ?_ ?_
 refine .seq ?_
 obtain ⟨r2, h3, hF⟩ := bindE hF
 obtain ⟨h4, hF⟩ := iteE hF
 obtain ⟨h5, hF⟩ := iteE hF
 obtain ⟨h6, hF⟩ := iteE hF
 refine WA.xs [.cells 0 0 1, .cells 0 1 1, .cells 0 10 1, .cells 0 11 1, .cells 0 2 4, .cells 0 6 4] [.cells 1 0 12] ?_ ?_
 refine WA.lem (pr' := [.cells 0 0 1, .cells 0 1 1, .cells 0 10 1, .cells 0 11 1, .cells 0 2 4, .cells 0 6 4]) (fuel' := 0) (listed' := #[true, true, true, true, true, true, true, true, true, true, true, true, true, true, true, true, true, true, true, true, true]) (st' := ⟨[(2, pT 1 0)], [.box [.vw none tyIII a1, .vw none tyI a2, ci a3, ci a4, ci a5, .bool a6, ci a7, ci a8, ci a9, .bool a10, .vw none tyI a11, .vw none tyI a12], .box [.sl 2, .sl 3, ci a3, ci a4, ci a5, .bool a6, ci a7, ci a8, ci a9, .bool a10, .sl 4, .sl 5], .row tyIII (([] : List (Int × (Int × Int))) ++ a1), .row tyI (([] : List Int) ++ a2), .row tyI (([] : List Int) ++ a11), .row tyI (([] : List Int) ++ a12)]⟩) ?_ (fun A26 => ?_)
 ·
  refine WA.xD (some ([1, 2, 3, 4, 5], [2])) ⟨[(2, pT 0 0)], [.box [.sl 1, .sl 2, ci a3, ci a4, ci a5, .bool a6, ci a7, ci a8, ci a9, .bool a10, .sl 3, .sl 4], .row tyIII (([] : List (Int × (Int × Int))) ++ a1), .row tyI (([] : List Int) ++ a2), .row tyI (([] : List Int) ++ a11), .row tyI (([] : List Int) ++ a12)]⟩ ?_ ?_
  cases hF
  exact .xR hE [] [1, 2, 3, 4] (by kernel_rfl)
  all_goals kernel_rfl
 refine WA.lem (pr' := [.cells 0 0 1, .cells 0 1 1, .cells 0 10 1, .cells 0 11 1, .cells 0 2 4, .cells 0 6 4]) (fuel' := 3) (listed' := #[true, true, true, true, true, true, true, true, true, true, true, true, true, true, true, true, true, true, false, false, false]) (st' := ⟨[(2, pT 1 0), (5, aG [.sl 2]), (9, sL 3), (11, aG [ci a3, ci a4, ci a5, .bool a6]), (13, aG [ci a7, ci a8, ci a9, .bool a10]), (17, sL 4), (18, sL 5), (20, vV none tyI a12)], [.box [.vw none tyIII a1, .vw none tyI a2, ci a3, ci a4, ci a5, .bool a6, ci a7, ci a8, ci a9, .bool a10, .vw none tyI a11, .vw none tyI a12], .box [.nilsl, .nilsl, ci 0, ci 0, ci 0, .bool false, ci 0, ci 0, ci 0, .bool false, .nilsl, .nilsl], .row tyIII (([] : List (Int × (Int × Int))) ++ a1), .row tyI (([] : List Int) ++ a2), .row tyI (([] : List Int) ++ a11), .row tyI ([] : List Int)]⟩) ?_ (fun A25 => ?_)
 ·
  refine WA.x1 18 (WO.uO [.tmp 18, .tmp 20] false [.whole 5] [.cells 0 0 1, .cells 0 1 1, .cells 0 10 1, .cells 0 11 1, .cells 0 2 4, .cells 0 6 4] (append_view (d := tyI) (xs := ([] : List Int)) (ys := a12) rfl (by kernel_rfl) (by kernel_rfl) h6) rfl ?_ ?_) ?_
  exact WA.to 2 [] [] [0, 1, 2, 3, 4, 6] [2] A26 trivial (by kernel_rfl)
  all_goals kernel_rfl
 refine WA.lem (pr' := [.cells 0 0 1, .cells 0 1 1, .cells 0 10 1, .cells 0 11 1, .cells 0 2 4, .cells 0 6 4]) (fuel' := 4) (listed' := #[true, true, true, true, true, true, true, true, true, true, true, true, true, true, false, true, true, true, false, false, false]) (st' := ⟨[(2, pT 1 0), (5, aG [.sl 2]), (9, sL 3), (11, aG [ci a3, ci a4, ci a5, .bool a6]), (13, aG [ci a7, ci a8, ci a9, .bool a10]), (14, sL 4), (16, vV none tyI a11), (18, sL 5), (20, vV none tyI a12)], [.box [.vw none tyIII a1, .vw none tyI a2, ci a3, ci a4, ci a5, .bool a6, ci a7, ci a8, ci a9, .bool a10, .vw none tyI a11, .vw none tyI a12], .box [.nilsl, .nilsl, ci 0, ci 0, ci 0, .bool false, ci 0, ci 0, ci 0, .bool false, .nilsl, .nilsl], .row tyIII (([] : List (Int × (Int × Int))) ++ a1), .row tyI (([] : List Int) ++ a2), .row tyI ([] : List Int), .row tyI ([] : List Int)]⟩) ?_ (fun A24 => ?_)
 ·
  refine WA.x1 14 (WO.uO [.tmp 14, .tmp 16] false [.whole 4] [.cells 0 0 1, .cells 0 1 1, .cells 0 10 1, .cells 0 11 1, .cells 0 2 4, .cells 0 6 4] (append_view (d := tyI) (xs := ([] : List Int)) (ys := a11) rfl (by kernel_rfl) (by kernel_rfl) h5) rfl ?_ ?_) ?_
  exact WA.to 0 [] [] [0, 1, 2, 3, 6, 5] [2, 5, 9, 11, 13, 17, 18, 20] A25 trivial (by kernel_rfl)
  all_goals kernel_rfl
 refine WA.lem (pr' := [.cells 0 0 1, .cells 0 1 1, .cells 0 10 1, .cells 0 11 1, .cells 0 2 4, .cells 0 6 4]) (fuel' := 5) (listed' := #[true, true, true, true, true, true, false, true, true, true, true, true, true, true, false, true, true, true, false, false, false]) (st' := ⟨[(2, pT 1 0), (5, aG [.sl 2]), (6, sL 3), (8, vV none tyI a2), (11, aG [ci a3, ci a4, ci a5, .bool a6]), (13, aG [ci a7, ci a8, ci a9, .bool a10]), (14, sL 4), (16, vV none tyI a11), (18, sL 5), (20, vV none tyI a12)], [.box [.vw none tyIII a1, .vw none tyI a2, ci a3, ci a4, ci a5, .bool a6, ci a7, ci a8, ci a9, .bool a10, .vw none tyI a11, .vw none tyI a12], .box [.nilsl, .nilsl, ci 0, ci 0, ci 0, .bool false, ci 0, ci 0, ci 0, .bool false, .nilsl, .nilsl], .row tyIII (([] : List (Int × (Int × Int))) ++ a1), .row tyI ([] : List Int), .row tyI ([] : List Int), .row tyI ([] : List Int)]⟩) ?_ (fun A21 => ?_)
 ·
  refine WA.x1 6 (WO.uO [.tmp 6, .tmp 8] false [.whole 3] [.cells 0 0 1, .cells 0 1 1, .cells 0 10 1, .cells 0 11 1, .cells 0 2 4, .cells 0 6 4] (append_view (d := tyI) (xs := ([] : List Int)) (ys := a2) rfl (by kernel_rfl) (by kernel_rfl) h4) rfl ?_ ?_) ?_
  exact WA.to 0 [] [] [0, 1, 2, 6, 4, 5] [2, 5, 9, 11, 13, 14, 16, 18, 20] A24 trivial (by kernel_rfl)
  all_goals kernel_rfl
 refine WA.lem (pr' := [.cells 0 0 1, .cells 0 1 1, .cells 0 10 1, .cells 0 11 1, .cells 0 2 4, .cells 0 6 4]) (fuel' := 5) (listed' := #[true, true, true, true, true, true, true, true, true, true, true, true, true, true, false, false, true, true, false, false, false]) (st' := ⟨[(2, pT 1 0), (5, aG [.sl 2]), (9, sL 3), (11, aG [ci a3, ci a4, ci a5, .bool a6]), (13, aG [ci a7, ci a8, ci a9, .bool a10]), (14, sL 4), (16, vV none tyI a11), (20, vV none tyI a12)], [.box [.vw none tyIII a1, .vw none tyI a2, ci a3, ci a4, ci a5, .bool a6, ci a7, ci a8, ci a9, .bool a10, .vw none tyI a11, .vw none tyI a12], .box [.nilsl, .nilsl, ci 0, ci 0, ci 0, .bool false, ci 0, ci 0, ci 0, .bool false, .nilsl, .nilsl], .row tyIII (([] : List (Int × (Int × Int))) ++ a1), .row tyI (([] : List Int) ++ a2), .row tyI ([] : List Int)]⟩) ?_ (fun A23 => ?_)
 ·
  refine WA.xf [14, 15] (by simp) (allW2 ?_ ?_) ?_
  ·
   refine WO.uO [.tmp 14, .tmp 16] false [.whole 4] [.cells 0 0 1, .cells 0 1 1, .cells 0 10 1, .cells 0 11 1, .cells 0 2 4, .cells 0 6 4] (append_view (d := tyI) (xs := ([] : List Int)) (ys := a11) rfl (by kernel_rfl) (by kernel_rfl) h5) rfl ?_ ?_
   exact WA.to 1 [.el tyI 0] [] [0, 1, 2, 3, 5, 6] [2, 5, 9, 11, 13, 17, 18, 20] A25 trivial (by kernel_rfl)
   all_goals kernel_rfl
  ·
   refine WO.uM [.el tyI 0] [] trivial ?_ ?_
   exact WA.to 0 [] [] [0, 1, 2, 3, 4, 5] [2, 5, 9, 11, 13, 14, 16, 18, 20] A24 trivial (by kernel_rfl)
   all_goals kernel_rfl
  kernel_rfl
 refine WA.lem (pr' := [.cells 0 0 1, .cells 0 1 1, .cells 0 10 1, .cells 0 11 1, .cells 0 2 4, .cells 0 6 4]) (fuel' := 6) (listed' := #[true, true, true, true, true, true, true, true, true, true, true, false, true, true, false, false, true, true, false, false, false]) (st' := ⟨[(2, pT 1 0), (5, aG [.sl 2]), (9, sL 3), (11, aG [ci a3, ci a4, ci a5, .bool a6]), (13, aG [ci a7, ci a8, ci a9, .bool a10]), (16, vV none tyI a11), (20, vV none tyI a12)], [.box [.vw none tyIII a1, .vw none tyI a2, ci a3, ci a4, ci a5, .bool a6, ci a7, ci a8, ci a9, .bool a10, .vw none tyI a11, .vw none tyI a12], .box [.nilsl, .nilsl, ci 0, ci 0, ci 0, .bool false, ci 0, ci 0, ci 0, .bool false, .nilsl, .nilsl], .row tyIII (([] : List (Int × (Int × Int))) ++ a1), .row tyI (([] : List Int) ++ a2)]⟩) ?_ (fun A18 => ?_)
 ·
  refine WA.xf [11, 15] (by simp) (allW2 ?_ ?_) ?_
  ·
   refine WO.uM [.el tyI 0] [] trivial ?_ ?_
   exact WA.to 0 [] [] [0, 1, 2, 3, 4] [2, 5, 9, 11, 13, 14, 16, 20] A23 trivial (by kernel_rfl)
   all_goals kernel_rfl
  ·
   refine WO.uM [.el tyI 0] [] trivial ?_ ?_
   exact WA.to 1 [.el tyI 0] [] [0, 1, 2, 3, 5, 4] [2, 5, 9, 11, 13, 14, 16, 18, 20] A24 trivial (by kernel_rfl)
   all_goals kernel_rfl
  kernel_rfl
 refine WA.lem (pr' := [.cells 0 0 1, .cells 0 1 1, .cells 0 10 1, .cells 0 11 1, .cells 0 2 4, .cells 0 6 4]) (fuel' := 6) (listed' := #[true, true, true, true, true, true, false, true, true, true, true, true, true, true, false, false, true, true, false, false, false]) (st' := ⟨[(2, pT 1 0), (5, aG [.sl 2]), (6, sL 3), (8, vV none tyI a2), (11, aG [ci a3, ci a4, ci a5, .bool a6]), (13, aG [ci a7, ci a8, ci a9, .bool a10]), (14, sL 4), (16, vV none tyI a11), (20, vV none tyI a12)], [.box [.vw none tyIII a1, .vw none tyI a2, ci a3, ci a4, ci a5, .bool a6, ci a7, ci a8, ci a9, .bool a10, .vw none tyI a11, .vw none tyI a12], .box [.nilsl, .nilsl, ci 0, ci 0, ci 0, .bool false, ci 0, ci 0, ci 0, .bool false, .nilsl, .nilsl], .row tyIII (([] : List (Int × (Int × Int))) ++ a1), .row tyI ([] : List Int), .row tyI ([] : List Int)]⟩) ?_ (fun A19 => ?_)
 ·
  refine WA.xf [6, 15] (by simp) (allW2 ?_ ?_) ?_
  ·
   refine WO.uO [.tmp 6, .tmp 8] false [.whole 3] [.cells 0 0 1, .cells 0 1 1, .cells 0 10 1, .cells 0 11 1, .cells 0 2 4, .cells 0 6 4] (append_view (d := tyI) (xs := ([] : List Int)) (ys := a2) rfl (by kernel_rfl) (by kernel_rfl) h4) rfl ?_ ?_
   exact WA.to 0 [] [] [0, 1, 2, 5, 4] [2, 5, 9, 11, 13, 14, 16, 20] A23 trivial (by kernel_rfl)
   all_goals kernel_rfl
  ·
   refine WO.uM [.el tyI 0] [] trivial ?_ ?_
   exact WA.to 0 [] [] [0, 1, 2, 3, 4, 5] [2, 5, 6, 8, 11, 13, 14, 16, 18, 20] A21 trivial (by kernel_rfl)
   all_goals kernel_rfl
  kernel_rfl
 refine WA.lem (pr' := [.cells 0 0 1, .cells 0 1 1, .cells 0 10 1, .cells 0 11 1, .cells 0 2 4, .cells 0 6 4]) (fuel' := 6) (listed' := #[true, true, true, true, true, true, false, true, true, true, true, false, true, true, false, true, true, true, false, false, false]) (st' := ⟨[(2, pT 1 0), (5, aG [.sl 2]), (6, sL 3), (8, vV none tyI a2), (11, aG [ci a3, ci a4, ci a5, .bool a6]), (13, aG [ci a7, ci a8, ci a9, .bool a10]), (16, vV none tyI a11), (18, sL 4), (20, vV none tyI a12)], [.box [.vw none tyIII a1, .vw none tyI a2, ci a3, ci a4, ci a5, .bool a6, ci a7, ci a8, ci a9, .bool a10, .vw none tyI a11, .vw none tyI a12], .box [.nilsl, .nilsl, ci 0, ci 0, ci 0, .bool false, ci 0, ci 0, ci 0, .bool false, .nilsl, .nilsl], .row tyIII (([] : List (Int × (Int × Int))) ++ a1), .row tyI ([] : List Int), .row tyI ([] : List Int)]⟩) ?_ (fun A20 => ?_)
 ·
  refine WA.xf [6, 11] (by simp) (allW2 ?_ ?_) ?_
  ·
   refine WO.uO [.tmp 6, .tmp 8] false [.whole 3] [.cells 0 0 1, .cells 0 1 1, .cells 0 10 1, .cells 0 11 1, .cells 0 2 4, .cells 0 6 4] (append_view (d := tyI) (xs := ([] : List Int)) (ys := a2) rfl (by kernel_rfl) (by kernel_rfl) h4) rfl ?_ ?_
   exact WA.to 1 [.el tyI 0] [] [0, 1, 2, 5, 6, 4] [2, 5, 9, 11, 13, 14, 16, 18, 20] A24 trivial (by kernel_rfl)
   all_goals kernel_rfl
  ·
   refine WO.uM [.el tyI 0] [] trivial ?_ ?_
   exact WA.to 0 [] [] [0, 1, 2, 3, 5, 4] [2, 5, 6, 8, 11, 13, 14, 16, 18, 20] A21 trivial (by kernel_rfl)
   all_goals kernel_rfl
  kernel_rfl
 refine WA.lem (pr' := [.cells 0 0 1, .cells 0 1 1, .cells 0 10 1, .cells 0 11 1, .cells 0 2 4, .cells 0 6 4]) (fuel' := 6) (listed' := #[true, true, false, true, true, true, false, true, true, true, true, true, true, true, false, true, true, true, false, false, false]) (st' := ⟨[(2, pT 1 0), (4, aG [.vw none tyIII a1]), (6, sL 2), (8, vV none tyI a2), (11, aG [ci a3, ci a4, ci a5, .bool a6]), (13, aG [ci a7, ci a8, ci a9, .bool a10]), (14, sL 3), (16, vV none tyI a11), (18, sL 4), (20, vV none tyI a12)], [.box [.vw none tyIII a1, .vw none tyI a2, ci a3, ci a4, ci a5, .bool a6, ci a7, ci a8, ci a9, .bool a10, .vw none tyI a11, .vw none tyI a12], .box [.nilsl, .nilsl, ci 0, ci 0, ci 0, .bool false, ci 0, ci 0, ci 0, .bool false, .nilsl, .nilsl], .row tyI ([] : List Int), .row tyI ([] : List Int), .row tyI ([] : List Int)]⟩) ?_ (fun A22 => ?_)
 ·
  refine WA.x1 2 (WO.uC false [] [.cells 0 0 1, .cells 0 1 1, .cells 0 10 1, .cells 0 11 1, .cells 0 2 4, .cells 0 6 4] (S_spec_l1Copy k a1 r2 h3) rfl ?_ ?_) ?_
  exact WA.to 0 [] [] [0, 1, 5, 2, 3, 4] [2, 5, 6, 8, 11, 13, 14, 16, 18, 20] A21 trivial (by kernel_rfl)
  all_goals kernel_rfl
 refine WA.lem (pr' := [.cells 0 0 1, .cells 0 1 1, .cells 0 10 1, .cells 0 11 1, .cells 0 2 4, .cells 0 6 4]) (fuel' := 7) (listed' := #[true, true, true, true, true, true, false, true, true, true, true, false, true, true, false, false, true, true, false, false, false]) (st' := ⟨[(2, pT 1 0), (5, aG [.sl 2]), (6, sL 3), (8, vV none tyI a2), (11, aG [ci a3, ci a4, ci a5, .bool a6]), (13, aG [ci a7, ci a8, ci a9, .bool a10]), (16, vV none tyI a11), (20, vV none tyI a12)], [.box [.vw none tyIII a1, .vw none tyI a2, ci a3, ci a4, ci a5, .bool a6, ci a7, ci a8, ci a9, .bool a10, .vw none tyI a11, .vw none tyI a12], .box [.nilsl, .nilsl, ci 0, ci 0, ci 0, .bool false, ci 0, ci 0, ci 0, .bool false, .nilsl, .nilsl], .row tyIII (([] : List (Int × (Int × Int))) ++ a1), .row tyI ([] : List Int)]⟩) ?_ (fun A12 => ?_)
 ·
  refine WA.xf [6, 11, 15] (by simp) (allW3 ?_ ?_ ?_) ?_
  ·
   refine WO.uO [.tmp 6, .tmp 8] false [.whole 3] [.cells 0 0 1, .cells 0 1 1, .cells 0 10 1, .cells 0 11 1, .cells 0 2 4, .cells 0 6 4] (append_view (d := tyI) (xs := ([] : List Int)) (ys := a2) rfl (by kernel_rfl) (by kernel_rfl) h4) rfl ?_ ?_
   exact WA.to 0 [] [] [0, 1, 2, 4] [2, 5, 9, 11, 13, 16, 20] A18 trivial (by kernel_rfl)
   all_goals kernel_rfl
  ·
   refine WO.uM [.el tyI 0] [] trivial ?_ ?_
   exact WA.to 0 [] [] [0, 1, 2, 3, 4] [2, 5, 6, 8, 11, 13, 14, 16, 20] A19 trivial (by kernel_rfl)
   all_goals kernel_rfl
  ·
   refine WO.uM [.el tyI 0] [] trivial ?_ ?_
   exact WA.to 0 [] [] [0, 1, 2, 3, 4] [2, 5, 6, 8, 11, 13, 16, 18, 20] A20 trivial (by kernel_rfl)
   all_goals kernel_rfl
  kernel_rfl
 refine WA.lem (pr' := [.cells 0 0 1, .cells 0 1 1, .cells 0 10 1, .cells 0 11 1, .cells 0 2 4, .cells 0 6 4]) (fuel' := 7) (listed' := #[true, true, true, false, true, true, false, true, true, true, true, true, true, true, false, false, true, true, false, false, false]) (st' := ⟨[(2, pT 1 0), (5, aG [.sl 2]), (8, vV none tyI a2), (11, aG [ci a3, ci a4, ci a5, .bool a6]), (13, aG [ci a7, ci a8, ci a9, .bool a10]), (14, sL 3), (16, vV none tyI a11), (20, vV none tyI a12)], [.box [.vw none tyIII a1, .vw none tyI a2, ci a3, ci a4, ci a5, .bool a6, ci a7, ci a8, ci a9, .bool a10, .vw none tyI a11, .vw none tyI a12], .box [.nilsl, .nilsl, ci 0, ci 0, ci 0, .bool false, ci 0, ci 0, ci 0, .bool false, .nilsl, .nilsl], .row tyIII (([] : List (Int × (Int × Int))) ++ a1), .row tyI ([] : List Int)]⟩) ?_ (fun A13 => ?_)
 ·
  refine WA.xf [3, 15] (by simp) (allW2 ?_ ?_) ?_
  ·
   refine WO.uM [.el tyI 0] [] trivial ?_ ?_
   exact WA.to 0 [] [] [0, 1, 2, 4, 3] [2, 5, 6, 8, 11, 13, 14, 16, 20] A19 trivial (by kernel_rfl)
   all_goals kernel_rfl
  ·
   refine WO.uM [.el tyI 0] [] trivial ?_ ?_
   exact WA.to 1 [.el tyI 0] [] [0, 1, 2, 5, 3, 4] [2, 5, 6, 8, 11, 13, 14, 16, 18, 20] A21 trivial (by kernel_rfl)
   all_goals kernel_rfl
  kernel_rfl
 refine WA.lem (pr' := [.cells 0 0 1, .cells 0 1 1, .cells 0 10 1, .cells 0 11 1, .cells 0 2 4, .cells 0 6 4]) (fuel' := 7) (listed' := #[true, true, true, false, true, true, false, true, true, true, true, false, true, true, false, true, true, true, false, false, false]) (st' := ⟨[(2, pT 1 0), (5, aG [.sl 2]), (8, vV none tyI a2), (11, aG [ci a3, ci a4, ci a5, .bool a6]), (13, aG [ci a7, ci a8, ci a9, .bool a10]), (16, vV none tyI a11), (18, sL 3), (20, vV none tyI a12)], [.box [.vw none tyIII a1, .vw none tyI a2, ci a3, ci a4, ci a5, .bool a6, ci a7, ci a8, ci a9, .bool a10, .vw none tyI a11, .vw none tyI a12], .box [.nilsl, .nilsl, ci 0, ci 0, ci 0, .bool false, ci 0, ci 0, ci 0, .bool false, .nilsl, .nilsl], .row tyIII (([] : List (Int × (Int × Int))) ++ a1), .row tyI ([] : List Int)]⟩) ?_ (fun A14 => ?_)
 ·
  refine WA.xf [3, 11] (by simp) (allW2 ?_ ?_) ?_
  ·
   refine WO.uM [.el tyI 0] [] trivial ?_ ?_
   exact WA.to 0 [] [] [0, 1, 2, 4, 3] [2, 5, 6, 8, 11, 13, 16, 18, 20] A20 trivial (by kernel_rfl)
   all_goals kernel_rfl
  ·
   refine WO.uM [.el tyI 0] [] trivial ?_ ?_
   exact WA.to 1 [.el tyI 0] [] [0, 1, 2, 5, 4, 3] [2, 5, 6, 8, 11, 13, 14, 16, 18, 20] A21 trivial (by kernel_rfl)
   all_goals kernel_rfl
  kernel_rfl
 refine WA.lem (pr' := [.cells 0 0 1, .cells 0 1 1, .cells 0 10 1, .cells 0 11 1, .cells 0 2 4, .cells 0 6 4]) (fuel' := 7) (listed' := #[true, true, false, true, true, true, false, true, true, true, true, true, true, true, false, false, true, true, false, false, false]) (st' := ⟨[(2, pT 1 0), (4, aG [.vw none tyIII a1]), (6, sL 2), (8, vV none tyI a2), (11, aG [ci a3, ci a4, ci a5, .bool a6]), (13, aG [ci a7, ci a8, ci a9, .bool a10]), (14, sL 3), (16, vV none tyI a11), (20, vV none tyI a12)], [.box [.vw none tyIII a1, .vw none tyI a2, ci a3, ci a4, ci a5, .bool a6, ci a7, ci a8, ci a9, .bool a10, .vw none tyI a11, .vw none tyI a12], .box [.nilsl, .nilsl, ci 0, ci 0, ci 0, .bool false, ci 0, ci 0, ci 0, .bool false, .nilsl, .nilsl], .row tyI ([] : List Int), .row tyI ([] : List Int)]⟩) ?_ (fun A15 => ?_)
 ·
  refine WA.xf [2, 15] (by simp) (allW2 ?_ ?_) ?_
  ·
   refine WO.uC false [] [.cells 0 0 1, .cells 0 1 1, .cells 0 10 1, .cells 0 11 1, .cells 0 2 4, .cells 0 6 4] (S_spec_l1Copy k a1 r2 h3) rfl ?_ ?_
   exact WA.to 0 [] [] [0, 1, 4, 2, 3] [2, 5, 6, 8, 11, 13, 14, 16, 20] A19 trivial (by kernel_rfl)
   all_goals kernel_rfl
  ·
   refine WO.uM [.el tyI 0] [] trivial ?_ ?_
   exact WA.to 0 [] [] [0, 1, 2, 3, 4] [2, 4, 6, 8, 11, 13, 14, 16, 18, 20] A22 trivial (by kernel_rfl)
   all_goals kernel_rfl
  kernel_rfl
 refine WA.lem (pr' := [.cells 0 0 1, .cells 0 1 1, .cells 0 10 1, .cells 0 11 1, .cells 0 2 4, .cells 0 6 4]) (fuel' := 7) (listed' := #[true, true, false, true, true, true, false, true, true, true, true, false, true, true, false, true, true, true, false, false, false]) (st' := ⟨[(2, pT 1 0), (4, aG [.vw none tyIII a1]), (6, sL 2), (8, vV none tyI a2), (11, aG [ci a3, ci a4, ci a5, .bool a6]), (13, aG [ci a7, ci a8, ci a9, .bool a10]), (16, vV none tyI a11), (18, sL 3), (20, vV none tyI a12)], [.box [.vw none tyIII a1, .vw none tyI a2, ci a3, ci a4, ci a5, .bool a6, ci a7, ci a8, ci a9, .bool a10, .vw none tyI a11, .vw none tyI a12], .box [.nilsl, .nilsl, ci 0, ci 0, ci 0, .bool false, ci 0, ci 0, ci 0, .bool false, .nilsl, .nilsl], .row tyI ([] : List Int), .row tyI ([] : List Int)]⟩) ?_ (fun A16 => ?_)
 ·
  refine WA.xf [2, 11] (by simp) (allW2 ?_ ?_) ?_
  ·
   refine WO.uC false [] [.cells 0 0 1, .cells 0 1 1, .cells 0 10 1, .cells 0 11 1, .cells 0 2 4, .cells 0 6 4] (S_spec_l1Copy k a1 r2 h3) rfl ?_ ?_
   exact WA.to 0 [] [] [0, 1, 4, 2, 3] [2, 5, 6, 8, 11, 13, 16, 18, 20] A20 trivial (by kernel_rfl)
   all_goals kernel_rfl
  ·
   refine WO.uM [.el tyI 0] [] trivial ?_ ?_
   exact WA.to 0 [] [] [0, 1, 2, 4, 3] [2, 4, 6, 8, 11, 13, 14, 16, 18, 20] A22 trivial (by kernel_rfl)
   all_goals kernel_rfl
  kernel_rfl
 refine WA.lem (pr' := [.cells 0 0 1, .cells 0 1 1, .cells 0 10 1, .cells 0 11 1, .cells 0 2 4, .cells 0 6 4]) (fuel' := 7) (listed' := #[true, true, false, false, true, true, false, true, true, true, true, true, true, true, false, true, true, true, false, false, false]) (st' := ⟨[(2, pT 1 0), (4, aG [.vw none tyIII a1]), (8, vV none tyI a2), (11, aG [ci a3, ci a4, ci a5, .bool a6]), (13, aG [ci a7, ci a8, ci a9, .bool a10]), (14, sL 2), (16, vV none tyI a11), (18, sL 3), (20, vV none tyI a12)], [.box [.vw none tyIII a1, .vw none tyI a2, ci a3, ci a4, ci a5, .bool a6, ci a7, ci a8, ci a9, .bool a10, .vw none tyI a11, .vw none tyI a12], .box [.nilsl, .nilsl, ci 0, ci 0, ci 0, .bool false, ci 0, ci 0, ci 0, .bool false, .nilsl, .nilsl], .row tyI ([] : List Int), .row tyI ([] : List Int)]⟩) ?_ (fun A17 => ?_)
 ·
  refine WA.xf [2, 3] (by simp) (allW2 ?_ ?_) ?_
  ·
   refine WO.uC false [] [.cells 0 0 1, .cells 0 1 1, .cells 0 10 1, .cells 0 11 1, .cells 0 2 4, .cells 0 6 4] (S_spec_l1Copy k a1 r2 h3) rfl ?_ ?_
   exact WA.to 1 [.el tyI 0] [] [0, 1, 4, 5, 2, 3] [2, 5, 6, 8, 11, 13, 14, 16, 18, 20] A21 trivial (by kernel_rfl)
   all_goals kernel_rfl
  ·
   refine WO.uM [.el tyI 0] [] trivial ?_ ?_
   exact WA.to 0 [] [] [0, 1, 4, 2, 3] [2, 4, 6, 8, 11, 13, 14, 16, 18, 20] A22 trivial (by kernel_rfl)
   all_goals kernel_rfl
  kernel_rfl
 refine WA.lem (pr' := [.cells 0 0 1, .cells 0 1 1, .cells 0 10 1, .cells 0 11 1, .cells 0 2 4, .cells 0 6 4]) (fuel' := 8) (listed' := #[true, true, true, false, true, true, false, true, true, true, true, false, true, true, false, false, true, true, false, false, false]) (st' := ⟨[(2, pT 1 0), (5, aG [.sl 2]), (8, vV none tyI a2), (11, aG [ci a3, ci a4, ci a5, .bool a6]), (13, aG [ci a7, ci a8, ci a9, .bool a10]), (16, vV none tyI a11), (20, vV none tyI a12)], [.box [.vw none tyIII a1, .vw none tyI a2, ci a3, ci a4, ci a5, .bool a6, ci a7, ci a8, ci a9, .bool a10, .vw none tyI a11, .vw none tyI a12], .box [.nilsl, .nilsl, ci 0, ci 0, ci 0, .bool false, ci 0, ci 0, ci 0, .bool false, .nilsl, .nilsl], .row tyIII (([] : List (Int × (Int × Int))) ++ a1)]⟩) ?_ (fun A8 => ?_)
 ·
  refine WA.xf [3, 11, 15] (by simp) (allW3 ?_ ?_ ?_) ?_
  ·
   refine WO.uM [.el tyI 0] [] trivial ?_ ?_
   exact WA.to 0 [] [] [0, 1, 2, 3] [2, 5, 6, 8, 11, 13, 16, 20] A12 trivial (by kernel_rfl)
   all_goals kernel_rfl
  ·
   refine WO.uM [.el tyI 0] [] trivial ?_ ?_
   exact WA.to 0 [] [] [0, 1, 2, 3] [2, 5, 8, 11, 13, 14, 16, 20] A13 trivial (by kernel_rfl)
   all_goals kernel_rfl
  ·
   refine WO.uM [.el tyI 0] [] trivial ?_ ?_
   exact WA.to 0 [] [] [0, 1, 2, 3] [2, 5, 8, 11, 13, 16, 18, 20] A14 trivial (by kernel_rfl)
   all_goals kernel_rfl
  kernel_rfl
 refine WA.lem (pr' := [.cells 0 0 1, .cells 0 1 1, .cells 0 10 1, .cells 0 11 1, .cells 0 2 4, .cells 0 6 4]) (fuel' := 8) (listed' := #[true, true, false, true, true, true, false, true, true, true, true, false, true, true, false, false, true, true, false, false, false]) (st' := ⟨[(2, pT 1 0), (4, aG [.vw none tyIII a1]), (6, sL 2), (8, vV none tyI a2), (11, aG [ci a3, ci a4, ci a5, .bool a6]), (13, aG [ci a7, ci a8, ci a9, .bool a10]), (16, vV none tyI a11), (20, vV none tyI a12)], [.box [.vw none tyIII a1, .vw none tyI a2, ci a3, ci a4, ci a5, .bool a6, ci a7, ci a8, ci a9, .bool a10, .vw none tyI a11, .vw none tyI a12], .box [.nilsl, .nilsl, ci 0, ci 0, ci 0, .bool false, ci 0, ci 0, ci 0, .bool false, .nilsl, .nilsl], .row tyI ([] : List Int)]⟩) ?_ (fun A9 => ?_)
 ·
  refine WA.xf [2, 11, 15] (by simp) (allW3 ?_ ?_ ?_) ?_
  ·
   refine WO.uC false [] [.cells 0 0 1, .cells 0 1 1, .cells 0 10 1, .cells 0 11 1, .cells 0 2 4, .cells 0 6 4] (S_spec_l1Copy k a1 r2 h3) rfl ?_ ?_
   exact WA.to 0 [] [] [0, 1, 3, 2] [2, 5, 6, 8, 11, 13, 16, 20] A12 trivial (by kernel_rfl)
   all_goals kernel_rfl
  ·
   refine WO.uM [.el tyI 0] [] trivial ?_ ?_
   exact WA.to 0 [] [] [0, 1, 2, 3] [2, 4, 6, 8, 11, 13, 14, 16, 20] A15 trivial (by kernel_rfl)
   all_goals kernel_rfl
  ·
   refine WO.uM [.el tyI 0] [] trivial ?_ ?_
   exact WA.to 0 [] [] [0, 1, 2, 3] [2, 4, 6, 8, 11, 13, 16, 18, 20] A16 trivial (by kernel_rfl)
   all_goals kernel_rfl
  kernel_rfl
 refine WA.lem (pr' := [.cells 0 0 1, .cells 0 1 1, .cells 0 10 1, .cells 0 11 1, .cells 0 2 4, .cells 0 6 4]) (fuel' := 8) (listed' := #[true, true, false, false, true, true, false, true, true, true, true, true, true, true, false, false, true, true, false, false, false]) (st' := ⟨[(2, pT 1 0), (4, aG [.vw none tyIII a1]), (8, vV none tyI a2), (11, aG [ci a3, ci a4, ci a5, .bool a6]), (13, aG [ci a7, ci a8, ci a9, .bool a10]), (14, sL 2), (16, vV none tyI a11), (20, vV none tyI a12)], [.box [.vw none tyIII a1, .vw none tyI a2, ci a3, ci a4, ci a5, .bool a6, ci a7, ci a8, ci a9, .bool a10, .vw none tyI a11, .vw none tyI a12], .box [.nilsl, .nilsl, ci 0, ci 0, ci 0, .bool false, ci 0, ci 0, ci 0, .bool false, .nilsl, .nilsl], .row tyI ([] : List Int)]⟩) ?_ (fun A10 => ?_)
 ·
  refine WA.xf [2, 3, 15] (by simp) (allW3 ?_ ?_ ?_) ?_
  ·
   refine WO.uC false [] [.cells 0 0 1, .cells 0 1 1, .cells 0 10 1, .cells 0 11 1, .cells 0 2 4, .cells 0 6 4] (S_spec_l1Copy k a1 r2 h3) rfl ?_ ?_
   exact WA.to 0 [] [] [0, 1, 3, 2] [2, 5, 8, 11, 13, 14, 16, 20] A13 trivial (by kernel_rfl)
   all_goals kernel_rfl
  ·
   refine WO.uM [.el tyI 0] [] trivial ?_ ?_
   exact WA.to 0 [] [] [0, 1, 3, 2] [2, 4, 6, 8, 11, 13, 14, 16, 20] A15 trivial (by kernel_rfl)
   all_goals kernel_rfl
  ·
   refine WO.uM [.el tyI 0] [] trivial ?_ ?_
   exact WA.to 0 [] [] [0, 1, 2, 3] [2, 4, 8, 11, 13, 14, 16, 18, 20] A17 trivial (by kernel_rfl)
   all_goals kernel_rfl
  kernel_rfl
 refine WA.lem (pr' := [.cells 0 0 1, .cells 0 1 1, .cells 0 10 1, .cells 0 11 1, .cells 0 2 4, .cells 0 6 4]) (fuel' := 8) (listed' := #[true, true, false, false, true, true, false, true, true, true, true, false, true, true, false, true, true, true, false, false, false]) (st' := ⟨[(2, pT 1 0), (4, aG [.vw none tyIII a1]), (8, vV none tyI a2), (11, aG [ci a3, ci a4, ci a5, .bool a6]), (13, aG [ci a7, ci a8, ci a9, .bool a10]), (16, vV none tyI a11), (18, sL 2), (20, vV none tyI a12)], [.box [.vw none tyIII a1, .vw none tyI a2, ci a3, ci a4, ci a5, .bool a6, ci a7, ci a8, ci a9, .bool a10, .vw none tyI a11, .vw none tyI a12], .box [.nilsl, .nilsl, ci 0, ci 0, ci 0, .bool false, ci 0, ci 0, ci 0, .bool false, .nilsl, .nilsl], .row tyI ([] : List Int)]⟩) ?_ (fun A11 => ?_)
 ·
  refine WA.xf [2, 3, 11] (by simp) (allW3 ?_ ?_ ?_) ?_
  ·
   refine WO.uC false [] [.cells 0 0 1, .cells 0 1 1, .cells 0 10 1, .cells 0 11 1, .cells 0 2 4, .cells 0 6 4] (S_spec_l1Copy k a1 r2 h3) rfl ?_ ?_
   exact WA.to 0 [] [] [0, 1, 3, 2] [2, 5, 8, 11, 13, 16, 18, 20] A14 trivial (by kernel_rfl)
   all_goals kernel_rfl
  ·
   refine WO.uM [.el tyI 0] [] trivial ?_ ?_
   exact WA.to 0 [] [] [0, 1, 3, 2] [2, 4, 6, 8, 11, 13, 16, 18, 20] A16 trivial (by kernel_rfl)
   all_goals kernel_rfl
  ·
   refine WO.uM [.el tyI 0] [] trivial ?_ ?_
   exact WA.to 0 [] [] [0, 1, 3, 2] [2, 4, 8, 11, 13, 14, 16, 18, 20] A17 trivial (by kernel_rfl)
   all_goals kernel_rfl
  kernel_rfl
 refine WA.lem (pr' := [.cells 0 0 1, .cells 0 1 1, .cells 0 10 1, .cells 0 11 1, .cells 0 2 4, .cells 0 6 4]) (fuel' := 9) (listed' := #[true, true, false, false, true, true, false, true, true, true, true, false, true, true, false, false, true, true, false, false, false]) (st' := ⟨[(2, pT 1 0), (4, aG [.vw none tyIII a1]), (8, vV none tyI a2), (11, aG [ci a3, ci a4, ci a5, .bool a6]), (13, aG [ci a7, ci a8, ci a9, .bool a10]), (16, vV none tyI a11), (20, vV none tyI a12)], [.box [.vw none tyIII a1, .vw none tyI a2, ci a3, ci a4, ci a5, .bool a6, ci a7, ci a8, ci a9, .bool a10, .vw none tyI a11, .vw none tyI a12], .box [.nilsl, .nilsl, ci 0, ci 0, ci 0, .bool false, ci 0, ci 0, ci 0, .bool false, .nilsl, .nilsl]]⟩) ?_ (fun A7 => ?_)
 ·
  refine WA.xf [2, 3, 11, 15] (by simp) (allW4 ?_ ?_ ?_ ?_) ?_
  ·
   refine WO.uC false [] [.cells 0 0 1, .cells 0 1 1, .cells 0 10 1, .cells 0 11 1, .cells 0 2 4, .cells 0 6 4] (S_spec_l1Copy k a1 r2 h3) rfl ?_ ?_
   exact WA.to 0 [] [] [0, 1, 2] [2, 5, 8, 11, 13, 16, 20] A8 trivial (by kernel_rfl)
   all_goals kernel_rfl
  ·
   refine WO.uM [.el tyI 0] [] trivial ?_ ?_
   exact WA.to 0 [] [] [0, 1, 2] [2, 4, 6, 8, 11, 13, 16, 20] A9 trivial (by kernel_rfl)
   all_goals kernel_rfl
  ·
   refine WO.uM [.el tyI 0] [] trivial ?_ ?_
   exact WA.to 0 [] [] [0, 1, 2] [2, 4, 8, 11, 13, 14, 16, 20] A10 trivial (by kernel_rfl)
   all_goals kernel_rfl
  ·
   refine WO.uM [.el tyI 0] [] trivial ?_ ?_
   exact WA.to 0 [] [] [0, 1, 2] [2, 4, 8, 11, 13, 16, 18, 20] A11 trivial (by kernel_rfl)
   all_goals kernel_rfl
  kernel_rfl
 exact WA.to 12 [] [] [0, 1] [2, 4, 8, 11, 13, 16, 20] A7 trivial (by kernel_rfl)
 all_goals kernel_rfl
theorem S_spec_l1Parts (k : Nat) (a1 : Int) (r : Int) (hF : F_spec_l1Parts k a1 = some r) : Spec Tryz.prog 140 [iI a1] [] (iI r) [] := by
 refine Spec.of 0 15 Tryz.func140 rfl rfl (Nat.le_of_ble_eq_true rfl) rfl fun w0 S0 Z0 M0 R0 hE => ?_
 unfold F_spec_l1Parts at hF
 refine .seq ?_
 refine .vW [] none [] trivial ?_ ?_
 refine .seq ?_
 refine .seq ?_
 refine .vW [] (some ([], [2, 3])) [] trivial ?_ ?_
 refine .block ?_
 refine .seq ?_
 refine .xW [] (some ([], [2, 3, 4])) ⟨[(2, iI 0), (3, iI a1), (4, bB (a1 == 1))], []⟩ [] trivial ?_ ?_
 rcases condE hF with ⟨he, hF⟩ | ⟨he, hF⟩
 ·
  refine .xT he ?_ ?_
  refine .seq ?_
  refine .vW [] (some ([], [2])) [] trivial ?_ ?_
  cases hF
  exact .xR hE [] [] (by kernel_rfl)
  all_goals kernel_rfl
 ·
  refine .xF he ?_ ?_
  refine .seq ?_
  refine .seq ?_
  refine .xW [] (some ([], [2, 3, 6])) ⟨[(2, iI 0), (3, iI a1), (6, bB (a1 == 5))], []⟩ [] trivial ?_ ?_
  refine WT.join (f := fun v4 => F_spec_l1Parts_J3 k a1 v4) (r := r) (S := fun v4 => ⟨[(2, iI 0), (3, iI a1), (6, bB v4)], []⟩) (fun v4 hF => ?_) (fun hJJ3 => ?_)
  ·
   unfold F_spec_l1Parts_J3 at hF
   rcases condE hF with ⟨he, hF⟩ | ⟨he, hF⟩
   ·
    refine .xT he ?_ ?_
    refine .seq ?_
    refine .vW [] (some ([], [2])) [] trivial ?_ ?_
    cases hF
    exact .xR hE [] [] (by kernel_rfl)
    all_goals kernel_rfl
   ·
    refine .xF he ?_ ?_
    refine .seq ?_
    refine .seq ?_
    refine .xW [] (some ([], [2, 3, 9])) ⟨[(2, iI 0), (3, iI a1), (9, bB (a1 == 2))], []⟩ [] trivial ?_ ?_
    refine WT.join (f := fun v10 => F_spec_l1Parts_J6 k v10) (r := r) (S := fun v10 => ⟨[(2, iI 0), (9, bB v10)], []⟩) (fun v10 hF => ?_) (fun hJJ6 => ?_)
    ·
     unfold F_spec_l1Parts_J6 at hF
     rcases condE hF with ⟨he, hF⟩ | ⟨he, hF⟩
     ·
      refine .xT he ?_ ?_
      refine .seq ?_
      refine .vW [] (some ([], [2])) [] trivial ?_ ?_
      cases hF
      exact .xR hE [] [] (by kernel_rfl)
      all_goals kernel_rfl
     ·
      refine .xF he ?_ ?_
      refine .skip ?_
      refine .inBlock ?_
      refine .seq ?_
      refine .vW [] (some ([], [2])) [] trivial ?_ ?_
      cases hF
      exact .xR hE [] [] (by kernel_rfl)
      all_goals kernel_rfl
     all_goals kernel_rfl
    ·
     rcases condE hF with ⟨he, hF⟩ | ⟨he, hF⟩
     ·
      refine WT.putB [9] he ?_ ?_
      refine .yT ?_ ?_
      refine .skip ?_
      exact .xS [.pick [] [2, 9]] (hJJ6 (true) hF) (by kernel_rfl)
      all_goals kernel_rfl
     ·
      refine WT.putB [9] he ?_ ?_
      refine .yF ?_ ?_
      refine .seq ?_
      refine .xW [] (some ([], [2, 3, 9])) ⟨[(2, iI 0), (3, iI a1), (9, bB (a1 == 3))], []⟩ [] trivial ?_ ?_
      rcases condE hF with ⟨he, hF⟩ | ⟨he, hF⟩
      ·
       refine WT.putB [9] he ?_ ?_
       refine .yT ?_ ?_
       refine .skip ?_
       exact .xS [.pick [] [2, 9]] (hJJ6 (true) hF) (by kernel_rfl)
       all_goals kernel_rfl
      ·
       refine WT.putB [9] he ?_ ?_
       refine .yF ?_ ?_
       refine .seq ?_
       refine .xW [] (some ([], [2, 3, 9])) ⟨[(2, iI 0), (3, iI a1), (9, bB (a1 == 4))], []⟩ [] trivial ?_ ?_
       rcases condE hF with ⟨he, hF⟩ | ⟨he, hF⟩
       ·
        refine WT.putB [9] he ?_ ?_
        refine .yT ?_ ?_
        refine .skip ?_
        exact .xS [.pick [] [2, 9]] (hJJ6 (true) hF) (by kernel_rfl)
        all_goals kernel_rfl
       ·
        refine WT.putB [9] he ?_ ?_
        refine .yF ?_ ?_
        refine .seq ?_
        refine .xW [] (some ([], [2, 3, 9])) ⟨[(2, iI 0), (3, iI a1), (9, bB (a1 == 6))], []⟩ [] trivial ?_ ?_
        rcases condE hF with ⟨he, hF⟩ | ⟨he, hF⟩
        ·
         refine WT.putB [9] he ?_ ?_
         refine .yT ?_ ?_
         refine .skip ?_
         exact .xS [.pick [] [2, 9]] (hJJ6 (true) hF) (by kernel_rfl)
         all_goals kernel_rfl
        ·
         refine WT.putB [9] he ?_ ?_
         refine .yF ?_ ?_
         refine .vW [] (some ([], [2, 9])) [] trivial ?_ ?_
         exact .xS [.pick [] [2, 9]] (hJJ6 (a1 == 8) hF) (by kernel_rfl)
         all_goals kernel_rfl
        all_goals kernel_rfl
       all_goals kernel_rfl
      all_goals kernel_rfl
     all_goals kernel_rfl
    all_goals kernel_rfl
   all_goals kernel_rfl
  ·
   rcases condE hF with ⟨he, hF⟩ | ⟨he, hF⟩
   ·
    refine WT.putB [6] he ?_ ?_
    refine .yT ?_ ?_
    refine .skip ?_
    exact .xS [.pick [] [2, 3, 6]] (hJJ3 (true) hF) (by kernel_rfl)
    all_goals kernel_rfl
   ·
    refine WT.putB [6] he ?_ ?_
    refine .yF ?_ ?_
    refine .vW [] (some ([], [2, 3, 6])) [] trivial ?_ ?_
    exact .xS [.pick [] [2, 3, 6]] (hJJ3 (a1 == 7) hF) (by kernel_rfl)
    all_goals kernel_rfl
   all_goals kernel_rfl
  all_goals kernel_rfl
 all_goals kernel_rfl
theorem S_spec_l1In (k : Nat) (a1 : Int) (a2 : Int) (a3 : Int) (r : Bool) (hF : F_spec_l1In k a1 a2 a3 = some r) : Spec Tryz.prog 82 [iI a1, iI a2, iI a3] [] (bB r) [] := by
 refine Spec.of 0 15 Tryz.func82 rfl rfl (Nat.le_of_ble_eq_true rfl) rfl fun w0 S0 Z0 M0 R0 hE => ?_
 unfold F_spec_l1In at hF
 refine .seq ?_
 refine .xW [] none ⟨[(6, bB false), (0, iI a1), (1, iI a2), (2, iI a3)], []⟩ [] trivial ?_ ?_
 refine .seq ?_
 refine .uB [0, 1, 2, 3] [4, 5, 6, 7, 8] [] [] rfl trivial ?_ ?_
 rcases condE hF with ⟨he, hF⟩ | ⟨he, hF⟩
 ·
  refine WT.putB [10, 9] he ?_ ?_
  refine .vE [] (some ([], [6])) [] trivial ?_ ?_
  cases hF
  exact .xR hE [] [] (by kernel_rfl)
  all_goals kernel_rfl
 ·
  refine WT.putB [10, 9] he ?_ ?_
  refine .vE [] (some ([], [6])) [] trivial ?_ ?_
  cases hF
  exact .xR hE [] [] (by kernel_rfl)
  all_goals kernel_rfl
 all_goals kernel_rfl
theorem S_spec_l1Right (k : Nat) (a1 : Int) (a2 : Int) (a3 : Int) (a4 : Int) (r : Bool) (hF : F_spec_l1Right k a1 a2 a3 a4 = some r) : Spec Tryz.prog 109 [aG [ci a1, ci a2, ci a3], iI a4] [] (bB r) [] := by
 refine Spec.of 0 56 Tryz.func109 rfl rfl (Nat.le_of_ble_eq_true rfl) rfl fun w0 S0 Z0 M0 R0 hE => ?_
 unfold F_spec_l1Right at hF
 refine .seq ?_
 refine .xW [] (some ([0], [1, 2, 4])) ⟨[(1, iI a4), (2, pT 0 0), (4, bB false)], [.box [ci a1, ci a2, ci a3]]⟩ [] trivial ?_ ?_
 refine .seq ?_
 refine .seq ?_
 refine .uB [0, 1] [2] [] [] rfl trivial ?_ ?_
 obtain ⟨r1, h17, hF⟩ := bindE hF
 refine .uC false [] (S_spec_l1Parts k a1 r1 h17) rfl ?_ ?_
 refine .vE [] (some ([0], [1, 2, 4, 7])) [] trivial ?_ ?_
 refine .block ?_
 refine .seq ?_
 refine .xW [] (some ([0], [1, 2, 4, 7, 8])) ⟨[(1, iI a4), (2, pT 0 0), (4, bB false), (7, iI r1), (8, bB (r1 == 0))], [.box [ci a1, ci a2, ci a3]]⟩ [] trivial ?_ ?_
 rcases condE hF with ⟨he, hF⟩ | ⟨he, hF⟩
 ·
  refine .xT he ?_ ?_
  refine .seq ?_
  refine .uB [0, 1] [2, 3, 4, 5, 6, 7, 8] [] [] rfl trivial ?_ ?_
  obtain ⟨r5, h13, hF⟩ := bindE hF
  refine .uC false [] (S_spec_l1In k a2 0 199 r5 h13) rfl ?_ ?_
  refine .uN [3] [4, 5, 6, 7, 8] [] [] rfl trivial ?_ ?_
  rcases condE hF with ⟨he, hF⟩ | ⟨he, hF⟩
  ·
   refine WT.putB [13, 12] he ?_ ?_
   refine .vE [] (some ([], [4])) [] trivial ?_ ?_
   cases hF
   exact .xR hE [] [] (by kernel_rfl)
   all_goals kernel_rfl
  ·
   refine WT.putB [13, 12] he ?_ ?_
   refine .vE [] (some ([], [4])) [] trivial ?_ ?_
   cases hF
   exact .xR hE [] [] (by kernel_rfl)
   all_goals kernel_rfl
  all_goals kernel_rfl
 ·
  refine .xF he ?_ ?_
  refine .seq ?_
  refine .xW [] (some ([0], [1, 2, 4, 7, 18])) ⟨[(1, iI a4), (2, pT 0 0), (4, bB false), (7, iI r1), (18, bB (r1 == 1))], [.box [ci a1, ci a2, ci a3]]⟩ [] trivial ?_ ?_
  rcases condE hF with ⟨he, hF⟩ | ⟨he, hF⟩
  ·
   refine .xT he ?_ ?_
   refine .seq ?_
   refine .uB [0, 1, 2, 3] [4, 5, 6, 7, 8, 9, 10] [] [] rfl trivial ?_ ?_
   obtain ⟨r8, h14, hF⟩ := bindE hF
   refine .uC false [] (S_spec_l1In k a2 0 (w64 (a4 - 1)) r8 h14) rfl ?_ ?_
   refine .uN [5] [6, 7, 8, 9, 10] [] [] rfl trivial ?_ ?_
   rcases condE hF with ⟨he, hF⟩ | ⟨he, hF⟩
   ·
    refine WT.putB [25, 24] he ?_ ?_
    refine .vE [] (some ([], [4])) [] trivial ?_ ?_
    cases hF
    exact .xR hE [] [] (by kernel_rfl)
    all_goals kernel_rfl
   ·
    refine WT.putB [25, 24] he ?_ ?_
    refine .vE [] (some ([], [4])) [] trivial ?_ ?_
    cases hF
    exact .xR hE [] [] (by kernel_rfl)
    all_goals kernel_rfl
   all_goals kernel_rfl
  ·
   refine .xF he ?_ ?_
   refine .seq ?_
   refine .xW [] (some ([0], [1, 2, 4, 30])) ⟨[(1, iI a4), (2, pT 0 0), (4, bB false), (30, bB (r1 == 2))], [.box [ci a1, ci a2, ci a3]]⟩ [] trivial ?_ ?_
   rcases condE hF with ⟨he, hF⟩ | ⟨he, hF⟩
   ·
    refine .xT he ?_ ?_
    refine .seq ?_
    refine .uB [0, 1, 2, 3] [4, 5, 6, 7, 8, 9, 10, 11, 12, 13, 14, 15, 16, 17, 18, 19, 20, 21, 22, 23, 24] [] [] rfl trivial ?_ ?_
    obtain ⟨r11, h16, hF⟩ := bindE hF
    refine .uC false [] (S_spec_l1In k a2 0 (w64 (a4 - 1)) r11 h16) rfl ?_ ?_
    refine .uN [5] [6, 7, 8, 9, 10, 11, 12, 13, 14, 15, 16, 17, 18, 19, 20, 21, 22, 23, 24] [] [] rfl trivial ?_ ?_
    rcases condE hF with ⟨he, hF⟩ | ⟨he, hF⟩
    ·
     refine WT.putB [37, 36] he ?_ ?_
     refine .uN [6, 7, 8, 9] [10, 11, 12, 13, 14, 15, 16, 17, 18, 19, 20, 21, 22, 23, 24] [] [] rfl trivial ?_ ?_
     obtain ⟨r12, h15, hF⟩ := bindE hF
     refine .uC false [] (S_spec_l1In k a3 0 (w64 (a4 - 1)) r12 h15) rfl ?_ ?_
     refine .uN [11, 12] [13, 14, 15, 16, 17, 18, 19, 20, 21, 22, 23, 24] [] [] rfl trivial ?_ ?_
     rcases condE hF with ⟨he, hF⟩ | ⟨he, hF⟩
     ·
      refine WT.putB [44, 43, 42] he ?_ ?_
      refine .uN [13, 14, 15, 16] [17, 18, 19, 20, 21, 22, 23, 24] [] [] rfl trivial ?_ ?_
      rcases condE hF with ⟨he, hF⟩ | ⟨he, hF⟩
      ·
       refine WT.putB [48, 47] he ?_ ?_
       refine .vE [] (some ([], [4])) [] trivial ?_ ?_
       cases hF
       exact .xR hE [] [] (by kernel_rfl)
       all_goals kernel_rfl
      ·
       refine WT.putB [48, 47] he ?_ ?_
       refine .vE [] (some ([], [4])) [] trivial ?_ ?_
       cases hF
       exact .xR hE [] [] (by kernel_rfl)
       all_goals kernel_rfl
      all_goals kernel_rfl
     ·
      refine WT.putB [44, 43, 42] he ?_ ?_
      refine .vE [] (some ([], [4])) [] trivial ?_ ?_
      cases hF
      exact .xR hE [] [] (by kernel_rfl)
      all_goals kernel_rfl
     all_goals kernel_rfl
    ·
     refine WT.putB [37, 36] he ?_ ?_
     refine .vE [] (some ([], [4])) [] trivial ?_ ?_
     cases hF
     exact .xR hE [] [] (by kernel_rfl)
     all_goals kernel_rfl
    all_goals kernel_rfl
   ·
    refine .xF he ?_ ?_
    refine .skip ?_
    refine .inBlock ?_
    refine .seq ?_
    refine .vW [] (some ([], [4])) [] trivial ?_ ?_
    cases hF
    exact .xR hE [] [] (by kernel_rfl)
    all_goals kernel_rfl
   all_goals kernel_rfl
  all_goals kernel_rfl
 all_goals kernel_rfl
theorem S_spec_l1Find (k : Nat) (a1 : (List (Int × (Int × Int)))) (a2 : Int) (a3 : Int) (a4 : Int) (r : Int) (hF : F_spec_l1Find k a1 a2 a3 a4 = some r) : Spec Tryz.prog 110 [aG [.vw none tyIII a1], aG [ci a2, ci a3, ci a4]] [] (iI r) [] := by
 refine Spec.of 0 21 Tryz.func110 rfl rfl (Nat.le_of_ble_eq_true rfl) rfl fun w0 S0 Z0 M0 R0 hE => ?_
 unfold F_spec_l1Find at hF
 refine .seq ?_
 refine .vW [] (some ([0, 1], [2, 3, 4])) [] trivial ?_ ?_
 refine .seq ?_
 refine .seq ?_
 refine .xW [] none ⟨[(5, iI 0), (2, pT 0 0), (3, pT 1 0), (4, iI 0)], [.box [.vw none tyIII a1], .box [ci a2, ci a3, ci a4]]⟩ [] trivial ?_ ?_
 refine WT.join (f := fun v17 => F_spec_l1Find_J1 k v17) (r := r) (S := fun v17 => ⟨[(4, iI 0)], []⟩) (fun v17 hF => ?_) (fun hJJ1 => ?_)
 ·
  unfold F_spec_l1Find_J1 at hF
  refine .seq ?_
  refine .vW [] none [] trivial ?_ ?_
  cases hF
  exact .xR hE [] [] (by kernel_rfl)
  all_goals kernel_rfl
 ·
  refine .block ?_
  refine WT.xL (fun s10 => ⟨[(2, pT 0 0), (3, pT 1 0), (4, iI 0), (5, iI s10)], [.box [.vw none tyIII a1], .box [ci a2, ci a3, ci a4]]⟩) (l := fun n x => F_spec_l1Find_L2 k a1 a2 a3 a4 (F_spec_l1Find_J1 k) n x) (r := r) [.pick [0, 1] [2, 3, 4, 5]] (0) k hF (fun _ => rfl) (fun nL2 s10 ih hF => ?_) ?_
  dsimp only [F_spec_l1Find_L2] at hF
  refine .seq ?_
  refine .seq ?_
  refine .xW [] (some ([0, 1], [2, 3, 4, 5, 10])) ⟨[(2, pT 0 0), (3, pT 1 0), (4, iI 0), (5, iI s10), (10, bB (decide (s10 < (a1.length : Int))))], [.box [.vw none tyIII a1], .box [ci a2, ci a3, ci a4]]⟩ [] trivial ?_ ?_
  rcases condE hF with ⟨he, hF⟩ | ⟨he, hF⟩
  ·
   refine .xT he ?_ ?_
   refine .skip ?_
   refine .seq ?_
   refine .block ?_
   refine .seq ?_
   obtain ⟨x14, h15, hF⟩ := bindE hF
   refine WA.xs [.cells 0 0 1, .cells 1 0 3, .dep none] [] ?_ ?_
   refine WA.fin 7 [.el tyIII x14] [at? a1 s10 = some x14] (some ([0, 1], [2, 3, 4, 5, 19])) ⟨[(2, pT 0 0), (3, pT 1 0), (4, iI 0), (5, iI s10), (19, bB (x14.1 == a2 && (x14.2.1 == a3 && (x14.2.2 == a4 && true))))], [.box [.vw none tyIII a1], .box [ci a2, ci a3, ci a4]]⟩ ⟨h15, trivial⟩ ?_ ?_
   rcases condE hF with ⟨he, hF⟩ | ⟨he, hF⟩
   ·
    refine .xT he ?_ ?_
    refine .seq ?_
    refine .vW [] (some ([0, 1], [2, 3, 4, 5])) [] trivial ?_ ?_
    cases hF
    exact .xR hE [] [] (by kernel_rfl)
    all_goals kernel_rfl
   ·
    refine .xF he ?_ ?_
    refine .skip ?_
    refine .inBlock ?_
    refine .vW [] (some ([0, 1], [2, 3, 4, 5])) [] trivial ?_ ?_
    exact .xS [.pick [0, 1] [2, 3, 4, 5]] (ih (w64 (s10 + 1)) hF) (by kernel_rfl)
    all_goals kernel_rfl
   all_goals kernel_rfl
  ·
   refine .xF he ?_ ?_
   refine .exit rfl ?_
   exact .xS [.pick [] [4]] (hJJ1 () hF) (by kernel_rfl)
   all_goals kernel_rfl
  all_goals kernel_rfl
 all_goals kernel_rfl
theorem S_spec_PoolOk (k : Nat) (a1 : (List (Int × (Int × Int)))) (r : Bool) (hF : F_spec_PoolOk k a1 = some r) : Spec Tryz.prog 79 [aG [.vw none tyIII a1]] [] (bB r) [] := by
 refine Spec.of 0 34 Tryz.func79 rfl rfl (Nat.le_of_ble_eq_true rfl) rfl fun w0 S0 Z0 M0 R0 hE => ?_
 unfold F_spec_PoolOk at hF
 refine .seq ?_
 refine .vW [] (some ([0], [1, 2])) [] trivial ?_ ?_
 refine .seq ?_
 refine .seq ?_
 refine .xW [] (some ([0], [1, 2, 7])) ⟨[(1, pT 0 0), (2, bB false), (7, bB (decide ((a1.length : Int) > 500)))], [.box [.vw none tyIII a1]]⟩ [] trivial ?_ ?_
 rcases condE hF with ⟨he, hF⟩ | ⟨he, hF⟩
 ·
  refine .xT he ?_ ?_
  refine .seq ?_
  refine .vW [] (some ([0], [1, 2])) [] trivial ?_ ?_
  cases hF
  exact .xR hE [] [] (by kernel_rfl)
  all_goals kernel_rfl
 ·
  refine .xF he ?_ ?_
  refine .skip ?_
  refine .seq ?_
  refine .seq ?_
  refine .xW [] (some ([0], [1, 2, 3])) ⟨[(1, pT 0 0), (2, bB false), (3, iI 0)], [.box [.vw none tyIII a1]]⟩ [] trivial ?_ ?_
  refine WT.join (f := fun v24 => F_spec_PoolOk_J2 k v24) (r := r) (S := fun v24 => ⟨[(2, bB false)], []⟩) (fun v24 hF => ?_) (fun hJJ2 => ?_)
  ·
   unfold F_spec_PoolOk_J2 at hF
   refine .seq ?_
   refine .vW [] none [] trivial ?_ ?_
   cases hF
   exact .xR hE [] [] (by kernel_rfl)
   all_goals kernel_rfl
  ·
   refine .block ?_
   refine WT.xL (fun s14 => ⟨[(1, pT 0 0), (2, bB false), (3, iI s14)], [.box [.vw none tyIII a1]]⟩) (l := fun n x => F_spec_PoolOk_L3 k a1 (F_spec_PoolOk_J2 k) n x) (r := r) [.pick [0] [1, 2, 3]] (0) k hF (fun _ => rfl) (fun nL3 s14 ih hF => ?_) ?_
   dsimp only [F_spec_PoolOk_L3] at hF
   refine .seq ?_
   refine .seq ?_
   refine .xW [] (some ([0], [1, 2, 3, 12])) ⟨[(1, pT 0 0), (2, bB false), (3, iI s14), (12, bB (decide (s14 < (a1.length : Int))))], [.box [.vw none tyIII a1]]⟩ [] trivial ?_ ?_
   rcases condE hF with ⟨he, hF⟩ | ⟨he, hF⟩
   ·
    refine .xT he ?_ ?_
    refine .skip ?_
    refine .seq ?_
    refine .block ?_
    refine .seq ?_
    refine WT.join (f := fun v22 => F_spec_PoolOk_J17 k s14 (F_spec_PoolOk_L3 k a1 (F_spec_PoolOk_J2 k) nL3) v22) (r := r) (S := fun v22 => ⟨[(1, pT 0 0), (2, bB false), (3, iI s14), (33, bB v22)], [.box [.vw none tyIII a1]]⟩) (fun v22 hF => ?_) (fun hJJ17 => ?_)
    ·
     unfold F_spec_PoolOk_J17 at hF
     rcases condE hF with ⟨he, hF⟩ | ⟨he, hF⟩
     ·
      refine .xT he ?_ ?_
      refine .seq ?_
      refine .vW [] (some ([0], [1, 2, 3])) [] trivial ?_ ?_
      cases hF
      exact .xR hE [] [] (by kernel_rfl)
      all_goals kernel_rfl
     ·
      refine .xF he ?_ ?_
      refine .skip ?_
      refine .inBlock ?_
      refine .vW [] (some ([0], [1, 2, 3])) [] trivial ?_ ?_
      exact .xS [.pick [0] [1, 2, 3]] (ih (w64 (s14 + 1)) hF) (by kernel_rfl)
      all_goals kernel_rfl
     all_goals kernel_rfl
    ·
     refine WA.xs [.cells 0 0 1, .dep none] [] ?_ ?_
     obtain ⟨x18, h29, hF⟩ := bindE hF
     refine WA.uR (fuel' := 13) (listed' := #[true, true, true, true, true, true, false, false, false, false, false, false, false, false, false, false, false, false, false]) 6 [.el tyIII x18] [at? a1 s14 = some x18] ⟨h29, trivial⟩ ?_ ?_
     obtain ⟨r19, h32, hF⟩ := bindE hF
     refine WA.x1 6 (WO.uC false [] [.cells 0 0 1] (S_spec_l1Right k x18.1 x18.2.1 x18.2.2 s14 r19 h32) rfl ?_ ?_) ?_
     refine WA.uR (fuel' := 10) (listed' := #[true, true, true, true, true, true, true, true, true, false, false, false, false, false, false, false, false, false, false]) 2 [] [] trivial ?_ ?_
     rcases condE hF with ⟨he, hF⟩ | ⟨he, hF⟩
     ·
      refine WA.putB [23, 22] he ?_ ?_
      refine WA.fin 10 [] [] (some ([0], [1, 2, 3, 33])) ⟨[(1, pT 0 0), (2, bB false), (3, iI s14), (33, bB true)], [.box [.vw none tyIII a1]]⟩ trivial ?_ ?_
      exact .xS [.pick [0] [1, 2, 3, 33]] (hJJ17 (true) hF) (by kernel_rfl)
      all_goals kernel_rfl
     ·
      refine WA.putB [23, 22] he ?_ ?_
      obtain ⟨x20, h30, hF⟩ := bindE hF
      refine WA.uR (fuel' := 3) (listed' := #[true, true, true, true, true, true, true, true, true, true, true, true, true, true, true, false, true, false, false]) 7 [.el tyIII x20] [at? a1 s14 = some x20] ⟨h30, trivial⟩ ?_ ?_
      obtain ⟨r21, h31, hF⟩ := bindE hF
      refine WA.x1 15 (WO.uC false [] [.cells 0 0 1] (S_spec_l1Find k a1 x20.1 x20.2.1 x20.2.2 r21 h31) rfl ?_ ?_) ?_
      refine WA.fin 2 [] [] (some ([0], [1, 2, 3, 33])) ⟨[(1, pT 0 0), (2, bB false), (3, iI s14), (33, bB (r21 != s14))], [.box [.vw none tyIII a1]]⟩ trivial ?_ ?_
      exact .xS [.pick [0] [1, 2, 3, 33]] (hJJ17 (r21 != s14) hF) (by kernel_rfl)
      all_goals kernel_rfl
     all_goals kernel_rfl
    all_goals kernel_rfl
   ·
    refine .xF he ?_ ?_
    refine .exit rfl ?_
    exact .xS [.pick [] [2]] (hJJ2 () hF) (by kernel_rfl)
    all_goals kernel_rfl
   all_goals kernel_rfl
  all_goals kernel_rfl
 all_goals kernel_rfl
theorem S_spec_l1Has (k : Nat) (a1 : (List (Int × (Int × Int)))) (a2 : Int) (r : Bool) (hF : F_spec_l1Has k a1 a2 = some r) : Spec Tryz.prog 81 [aG [.vw none tyIII a1], iI a2] [] (bB r) [] := by
 refine Spec.of 0 11 Tryz.func81 rfl rfl (Nat.le_of_ble_eq_true rfl) rfl fun w0 S0 Z0 M0 R0 hE => ?_
 unfold F_spec_l1Has at hF
 refine .seq ?_
 refine .xW [] (some ([0], [1, 2, 4])) ⟨[(1, iI a2), (2, pT 0 0), (4, bB false)], [.box [.vw none tyIII a1]]⟩ [] trivial ?_ ?_
 refine .seq ?_
 refine .uB [0, 1, 2, 3, 4] [5, 6] [] [] rfl trivial ?_ ?_
 obtain ⟨r1, h2, hF⟩ := bindE hF
 refine .uC false [] (S_spec_l1In k a2 0 (w64 ((a1.length : Int) - 1)) r1 h2) rfl ?_ ?_
 refine .vE [] (some ([], [4])) [] trivial ?_ ?_
 cases hF
 exact .xR hE [] [] (by kernel_rfl)
 all_goals kernel_rfl
theorem S_spec_l6Know (k : Nat) (a1 : (List (Int × (Int × Int)))) (a2 : (List Int)) (r : Bool) (hF : F_spec_l6Know k a1 a2 = some r) : Spec Tryz.prog 80 [aG [.vw none tyIII a1], vV none tyI a2] [] (bB r) [] := by
 refine Spec.of 0 38 Tryz.func80 rfl rfl (Nat.le_of_ble_eq_true rfl) rfl fun w0 S0 Z0 M0 R0 hE => ?_
 unfold F_spec_l6Know at hF
 refine .seq ?_
 refine .vW [] (some ([0], [1, 2, 4])) [] trivial ?_ ?_
 refine .seq ?_
 refine .seq ?_
 refine .xW [] (some ([0], [1, 2, 4, 8])) ⟨[(1, vV none tyI a2), (2, pT 0 0), (4, bB false), (8, bB (decide ((a2.length : Int) > 200)))], [.box [.vw none tyIII a1]]⟩ [] trivial ?_ ?_
 rcases condE hF with ⟨he, hF⟩ | ⟨he, hF⟩
 ·
  refine .xT he ?_ ?_
  refine .seq ?_
  refine .vW [] (some ([0], [1, 2, 4])) [] trivial ?_ ?_
  cases hF
  exact .xR hE [] [] (by kernel_rfl)
  all_goals kernel_rfl
 ·
  refine .xF he ?_ ?_
  refine .skip ?_
  refine .seq ?_
  refine .seq ?_
  refine .xW [] (some ([0], [1, 2, 4, 5])) ⟨[(1, vV none tyI a2), (2, pT 0 0), (4, bB false), (5, iI 0)], [.box [.vw none tyIII a1]]⟩ [] trivial ?_ ?_
  refine WT.join (f := fun v24 => F_spec_l6Know_J2 k v24) (r := r) (S := fun v24 => ⟨[(4, bB false)], []⟩) (fun v24 hF => ?_) (fun hJJ2 => ?_)
  ·
   unfold F_spec_l6Know_J2 at hF
   refine .seq ?_
   refine .vW [] none [] trivial ?_ ?_
   cases hF
   exact .xR hE [] [] (by kernel_rfl)
   all_goals kernel_rfl
  ·
   refine .block ?_
   refine WT.xL (fun s14 => ⟨[(1, vV none tyI a2), (2, pT 0 0), (4, bB false), (5, iI s14)], [.box [.vw none tyIII a1]]⟩) (l := fun n x => F_spec_l6Know_L3 k a1 a2 (F_spec_l6Know_J2 k) n x) (r := r) [.pick [0] [1, 2, 4, 5]] (0) k hF (fun _ => rfl) (fun nL3 s14 ih hF => ?_) ?_
   dsimp only [F_spec_l6Know_L3] at hF
   refine .seq ?_
   refine .seq ?_
   refine .xW [] (some ([0], [1, 2, 4, 5, 12])) ⟨[(1, vV none tyI a2), (2, pT 0 0), (4, bB false), (5, iI s14), (12, bB (decide (s14 < (a2.length : Int))))], [.box [.vw none tyIII a1]]⟩ [] trivial ?_ ?_
   rcases condE hF with ⟨he, hF⟩ | ⟨he, hF⟩
   ·
    refine .xT he ?_ ?_
    refine .skip ?_
    refine .seq ?_
    refine .block ?_
    refine .seq ?_
    refine WT.join (f := fun v22 => F_spec_l6Know_J17 k s14 (F_spec_l6Know_L3 k a1 a2 (F_spec_l6Know_J2 k) nL3) v22) (r := r) (S := fun v22 => ⟨[(1, vV none tyI a2), (2, pT 0 0), (4, bB false), (5, iI s14), (37, bB v22)], [.box [.vw none tyIII a1]]⟩) (fun v22 hF => ?_) (fun hJJ17 => ?_)
    ·
     unfold F_spec_l6Know_J17 at hF
     rcases condE hF with ⟨he, hF⟩ | ⟨he, hF⟩
     ·
      refine .xT he ?_ ?_
      refine .seq ?_
      refine .vW [] (some ([0], [1, 2, 4, 5])) [] trivial ?_ ?_
      cases hF
      exact .xR hE [] [] (by kernel_rfl)
      all_goals kernel_rfl
     ·
      refine .xF he ?_ ?_
      refine .skip ?_
      refine .inBlock ?_
      refine .vW [] (some ([0], [1, 2, 4, 5])) [] trivial ?_ ?_
      exact .xS [.pick [0] [1, 2, 4, 5]] (ih (w64 (s14 + 1)) hF) (by kernel_rfl)
      all_goals kernel_rfl
     all_goals kernel_rfl
    ·
     refine WA.xs [.cells 0 0 1, .dep none] [] ?_ ?_
     obtain ⟨x18, h29, hF⟩ := bindE hF
     refine WA.uR (fuel' := 18) (listed' := #[true, true, true, true, true, false, false, false, false, false, false, false, false, false, false, false, false, false, false, false, false, false, false]) 5 [.el tyI x18] [at? a2 s14 = some x18] ⟨h29, trivial⟩ ?_ ?_
     obtain ⟨r19, h32, hF⟩ := bindE hF
     refine WA.x1 5 (WO.uC false [] [.cells 0 0 1] (S_spec_l1Has k a1 x18 r19 h32) rfl ?_ ?_) ?_
     refine WA.uR (fuel' := 15) (listed' := #[true, true, true, true, true, true, true, true, false, false, false, false, false, false, false, false, false, false, false, false, false, false, false]) 2 [] [] trivial ?_ ?_
     rcases condE hF with ⟨he, hF⟩ | ⟨he, hF⟩
     ·
      refine WA.putB [22, 21] he ?_ ?_
      refine WA.fin 15 [] [] (some ([0], [1, 2, 4, 5, 37])) ⟨[(1, vV none tyI a2), (2, pT 0 0), (4, bB false), (5, iI s14), (37, bB true)], [.box [.vw none tyIII a1]]⟩ trivial ?_ ?_
      exact .xS [.pick [0] [1, 2, 4, 5, 37]] (hJJ17 (true) hF) (by kernel_rfl)
      all_goals kernel_rfl
     ·
      refine WA.putB [22, 21] he ?_ ?_
      refine WA.uR (fuel' := 12) (listed' := #[true, true, true, true, true, true, true, true, true, true, true, false, false, false, false, false, false, false, false, false, false, false, false]) 3 [] [] trivial ?_ ?_
      rcases condE hF with ⟨he, hF⟩ | ⟨he, hF⟩
      ·
       refine WA.putB [25, 24] he ?_ ?_
       obtain ⟨x20, h30, hF⟩ := bindE hF
       obtain ⟨x21, h31, hF⟩ := bindE hF
       refine WA.uR (fuel' := 5) (listed' := #[true, true, true, true, true, true, true, true, true, true, true, true, true, true, true, false, true, true, true, false, false, false, false]) 7 [.el tyI x20, .el tyI x21] [at? a2 (w64 (s14 - 1)) = some x20, at? a2 s14 = some x21] ⟨h30, h31, trivial⟩ ?_ ?_
       refine WA.xf [15, 19] (by simp) (allW2 ?_ ?_) ?_
       ·
        refine WO.uM [] [] trivial ?_ ?_
        refine WA.fin 4 [] [] (some ([0], [1, 2, 4, 5, 37])) ⟨[(1, vV none tyI a2), (2, pT 0 0), (4, bB false), (5, iI s14), (37, bB (decide (x20 ≥ x21)))], [.box [.vw none tyIII a1]]⟩ trivial ?_ ?_
        exact .xS [.pick [0] [1, 2, 4, 5, 37]] (hJJ17 (decide (x20 ≥ x21)) hF) (by kernel_rfl)
        all_goals kernel_rfl
       ·
        refine WO.uM [] [] trivial ?_ ?_
        refine WA.fin 4 [] [] (some ([0], [1, 2, 4, 5, 37])) ⟨[(1, vV none tyI a2), (2, pT 0 0), (4, bB false), (5, iI s14), (37, bB (decide (x20 ≥ x21)))], [.box [.vw none tyIII a1]]⟩ trivial ?_ ?_
        exact .xS [.pick [0] [1, 2, 4, 5, 37]] (hJJ17 (decide (x20 ≥ x21)) hF) (by kernel_rfl)
        all_goals kernel_rfl
       all_goals kernel_rfl
      ·
       refine WA.putB [25, 24] he ?_ ?_
       refine WA.fin 12 [] [] (some ([0], [1, 2, 4, 5, 37])) ⟨[(1, vV none tyI a2), (2, pT 0 0), (4, bB false), (5, iI s14), (37, bB false)], [.box [.vw none tyIII a1]]⟩ trivial ?_ ?_
       exact .xS [.pick [0] [1, 2, 4, 5, 37]] (hJJ17 (false) hF) (by kernel_rfl)
       all_goals kernel_rfl
      all_goals kernel_rfl
     all_goals kernel_rfl
    all_goals kernel_rfl
   ·
    refine .xF he ?_ ?_
    refine .exit rfl ?_
    exact .xS [.pick [] [4]] (hJJ2 () hF) (by kernel_rfl)
    all_goals kernel_rfl
   all_goals kernel_rfl
  all_goals kernel_rfl
 all_goals kernel_rfl
theorem S_spec_KnowOk (k : Nat) (a1 : (List (Int × (Int × Int)))) (a2 : (List Int)) (r : Bool) (hF : F_spec_KnowOk k a1 a2 = some r) : Spec Tryz.prog 38 [aG [.vw none tyIII a1], vV none tyI a2] [] (bB r) [] := by
 refine Spec.of 0 12 Tryz.func38 rfl rfl (Nat.le_of_ble_eq_true rfl) rfl fun w0 S0 Z0 M0 R0 hE => ?_
 unfold F_spec_KnowOk at hF
 refine .seq ?_
 refine .xW [] (some ([0], [1, 2, 4])) ⟨[(1, vV none tyI a2), (2, pT 0 0), (4, bB false)], [.box [.vw none tyIII a1]]⟩ [] trivial ?_ ?_
 refine .seq ?_
 refine .uB [0] [1, 2, 3, 4, 5, 6, 7] [] [] rfl trivial ?_ ?_
 obtain ⟨r2, h5, hF⟩ := bindE hF
 refine .uC false [] (S_spec_PoolOk k a1 r2 h5) rfl ?_ ?_
 refine .uN [2] [3, 4, 5, 6, 7] [] [] rfl trivial ?_ ?_
 rcases condE hF with ⟨he, hF⟩ | ⟨he, hF⟩
 ·
  refine WT.putB [7, 6] he ?_ ?_
  refine .uN [3, 4] [5, 6, 7] [] [] rfl trivial ?_ ?_
  obtain ⟨r3, h4, hF⟩ := bindE hF
  refine .uC false [] (S_spec_l6Know k a1 a2 r3 h4) rfl ?_ ?_
  refine .vE [] (some ([0], [1, 2, 4])) [] trivial ?_ ?_
  cases hF
  exact .xR hE [] [] (by kernel_rfl)
  all_goals kernel_rfl
 ·
  refine WT.putB [7, 6] he ?_ ?_
  refine .vE [] (some ([0], [1, 2, 4])) [] trivial ?_ ?_
  cases hF
  exact .xR hE [] [] (by kernel_rfl)
  all_goals kernel_rfl
 all_goals kernel_rfl
theorem S_spec_l18Link (k : Nat) (a1 : (List (Int × (Int × Int)))) (a2 : Int) (a3 : Int) (a4 : Int) (a5 : Bool) (r : Bool) (hF : F_spec_l18Link k a1 a2 a3 a4 a5 = some r) : Spec Tryz.prog 39 [aG [.vw none tyIII a1], aG [ci a2, ci a3, ci a4, .bool a5]] [] (bB r) [] := by
 refine Spec.of 0 19 Tryz.func39 rfl rfl (Nat.le_of_ble_eq_true rfl) rfl fun w0 S0 Z0 M0 R0 hE => ?_
 unfold F_spec_l18Link at hF
 refine .seq ?_
 refine .xW [] (some ([0, 1], [2, 3, 4])) ⟨[(2, pT 0 0), (3, pT 1 0), (4, bB false)], [.box [.vw none tyIII a1], .box [ci a2, ci a3, ci a4, .bool a5]]⟩ [] trivial ?_ ?_
 refine .seq ?_
 refine .uB [0, 1, 2] [3, 4, 5, 6, 7, 8, 9, 10, 11, 12, 13, 14] [] [] rfl trivial ?_ ?_
 obtain ⟨r2, h7, hF⟩ := bindE hF
 refine .uC false [] (S_spec_l1Has k a1 a2 r2 h7) rfl ?_ ?_
 refine .uN [4] [5, 6, 7, 8, 9, 10, 11, 12, 13, 14] [] [] rfl trivial ?_ ?_
 rcases condE hF with ⟨he, hF⟩ | ⟨he, hF⟩
 ·
  refine WT.putB [9, 8] he ?_ ?_
  refine .uN [5, 6] [7, 8, 9, 10, 11, 12, 13, 14] [] [] rfl trivial ?_ ?_
  obtain ⟨r3, h6, hF⟩ := bindE hF
  refine .uC false [] (S_spec_l1In k a3 0 20 r3 h6) rfl ?_ ?_
  refine .uN [8, 9] [10, 11, 12, 13, 14] [] [] rfl trivial ?_ ?_
  rcases condE hF with ⟨he, hF⟩ | ⟨he, hF⟩
  ·
   refine WT.putB [14, 13, 12] he ?_ ?_
   refine .uN [10, 11] [12, 13, 14] [] [] rfl trivial ?_ ?_
   obtain ⟨r4, h5, hF⟩ := bindE hF
   refine .uC false [] (S_spec_l1In k a4 0 20 r4 h5) rfl ?_ ?_
   refine .vE [] (some ([], [4])) [] trivial ?_ ?_
   cases hF
   exact .xR hE [] [] (by kernel_rfl)
   all_goals kernel_rfl
  ·
   refine WT.putB [14, 13, 12] he ?_ ?_
   refine .vE [] (some ([], [4])) [] trivial ?_ ?_
   cases hF
   exact .xR hE [] [] (by kernel_rfl)
   all_goals kernel_rfl
  all_goals kernel_rfl
 ·
  refine WT.putB [9, 8] he ?_ ?_
  refine .vE [] (some ([], [4])) [] trivial ?_ ?_
  cases hF
  exact .xR hE [] [] (by kernel_rfl)
  all_goals kernel_rfl
 all_goals kernel_rfl
theorem S_spec_l19Terms (k : Nat) (a1 : (List (Int × (Int × Int)))) (a2 : (List Int)) (r : Bool) (hF : F_spec_l19Terms k a1 a2 = some r) : Spec Tryz.prog 40 [aG [.vw none tyIII a1], vV none tyI a2] [] (bB r) [] := by
 refine Spec.of 0 22 Tryz.func40 rfl rfl (Nat.le_of_ble_eq_true rfl) rfl fun w0 S0 Z0 M0 R0 hE => ?_
 unfold F_spec_l19Terms at hF
 refine .seq ?_
 refine .vW [] (some ([0], [1, 2, 4])) [] trivial ?_ ?_
 refine .seq ?_
 refine .seq ?_
 refine .xW [] none ⟨[(5, iI 0), (1, vV none tyI a2), (2, pT 0 0), (4, bB false)], [.box [.vw none tyIII a1]]⟩ [] trivial ?_ ?_
 refine WT.join (f := fun v21 => F_spec_l19Terms_J1 k a2 v21) (r := r) (S := fun v21 => ⟨[(1, vV none tyI a2), (4, bB false)], []⟩) (fun v21 hF => ?_) (fun hJJ1 => ?_)
 ·
  unfold F_spec_l19Terms_J1 at hF
  refine .seq ?_
  refine .vW [] (some ([], [4])) [] trivial ?_ ?_
  cases hF
  exact .xR hE [] [] (by kernel_rfl)
  all_goals kernel_rfl
 ·
  refine .block ?_
  refine WT.xL (fun s12 => ⟨[(1, vV none tyI a2), (2, pT 0 0), (4, bB false), (5, iI s12)], [.box [.vw none tyIII a1]]⟩) (l := fun n x => F_spec_l19Terms_L2 k a1 a2 (F_spec_l19Terms_J1 k a2) n x) (r := r) [.pick [0] [1, 2, 4, 5]] (0) k hF (fun _ => rfl) (fun nL2 s12 ih hF => ?_) ?_
  dsimp only [F_spec_l19Terms_L2] at hF
  refine .seq ?_
  refine .seq ?_
  refine .xW [] (some ([0], [1, 2, 4, 5, 9])) ⟨[(1, vV none tyI a2), (2, pT 0 0), (4, bB false), (5, iI s12), (9, bB (decide (s12 < (a2.length : Int))))], [.box [.vw none tyIII a1]]⟩ [] trivial ?_ ?_
  rcases condE hF with ⟨he, hF⟩ | ⟨he, hF⟩
  ·
   refine .xT he ?_ ?_
   refine .skip ?_
   refine .seq ?_
   refine .block ?_
   refine .seq ?_
   obtain ⟨x16, h18, hF⟩ := bindE hF
   obtain ⟨r17, h19, hF⟩ := bindE hF
   refine WA.xs [.cells 0 0 1, .dep none] [] ?_ ?_
   refine WA.lem (pr' := [.cells 0 0 1]) (fuel' := 0) (listed' := #[true, true, true, true, true, true, true]) (st' := ⟨[(1, vV none tyI a2), (2, pT 0 0), (4, bB false), (5, iI s12), (18, bB (!r17))], [.box [.vw none tyIII a1]]⟩) ?_ (fun A25 => ?_)
   ·
    refine WA.xD none ⟨[(1, vV none tyI a2), (2, pT 0 0), (4, bB false), (5, iI s12), (18, bB (!r17))], [.box [.vw none tyIII a1]]⟩ ?_ ?_
    rcases condE hF with ⟨he, hF⟩ | ⟨he, hF⟩
    ·
     refine .xT he ?_ ?_
     refine .seq ?_
     refine .vW [] (some ([0], [1, 2, 4, 5])) [] trivial ?_ ?_
     cases hF
     exact .xR hE [] [] (by kernel_rfl)
     all_goals kernel_rfl
    ·
     refine .xF he ?_ ?_
     refine .skip ?_
     refine .inBlock ?_
     refine .vW [] (some ([0], [1, 2, 4, 5])) [] trivial ?_ ?_
     exact .xS [.pick [0] [1, 2, 4, 5]] (ih (w64 (s12 + 1)) hF) (by kernel_rfl)
     all_goals kernel_rfl
    all_goals kernel_rfl
   refine WA.lem (pr' := [.cells 0 0 1, .dep none]) (fuel' := 2) (listed' := #[true, true, true, true, true, false, false]) (st' := ⟨[(1, vV none tyI a2), (2, pT 0 0), (4, bB false), (5, iI s12), (12, aG [.vw none tyIII a1]), (16, iI x16)], [.box [.vw none tyIII a1]]⟩) ?_ (fun A24 => ?_)
   ·
    refine WA.x1 5 (WO.uC false [] [.cells 0 0 1] (S_spec_l1Has k a1 x16 r17 h19) rfl ?_ ?_) ?_
    exact WA.to 1 [] [] [0] [1, 2, 4, 5, 18] A25 trivial (by kernel_rfl)
    all_goals kernel_rfl
   exact WA.to 5 [.el tyI x16] [at? a2 s12 = some x16] [0] [1, 2, 4, 5, 12, 16] A24 ⟨h18, trivial⟩ (by kernel_rfl)
   all_goals kernel_rfl
  ·
   refine .xF he ?_ ?_
   refine .exit rfl ?_
   exact .xS [.pick [] [1, 4]] (hJJ1 () hF) (by kernel_rfl)
   all_goals kernel_rfl
  all_goals kernel_rfl
 all_goals kernel_rfl
theorem S_spec_StreamOk (k : Nat) (a1 : (List (Int × (Int × Int)))) (a2 : (List Int)) (a3 : Int) (a4 : Int) (a5 : Int) (a6 : Bool) (a7 : Int) (a8 : Int) (a9 : Int) (a10 : Bool) (a11 : (List Int)) (a12 : (List Int)) (r : Bool) (hF : F_spec_StreamOk k a1 a2 a3 a4 a5 a6 a7 a8 a9 a10 a11 a12 = some r) : Spec Tryz.prog 10 [aG [.vw none tyIII a1, .vw none tyI a2, ci a3, ci a4, ci a5, .bool a6, ci a7, ci a8, ci a9, .bool a10, .vw none tyI a11, .vw none tyI a12]] [] (bB r) [] := by
 refine Spec.of 0 36 Tryz.func10 rfl rfl (Nat.le_of_ble_eq_true rfl) rfl fun w0 S0 Z0 M0 R0 hE => ?_
 unfold F_spec_StreamOk at hF
 refine .seq ?_
 refine .xW [] (some ([0], [1, 2])) ⟨[(1, pT 0 0), (2, bB false)], [.box [.vw none tyIII a1, .vw none tyI a2, ci a3, ci a4, ci a5, .bool a6, ci a7, ci a8, ci a9, .bool a10, .vw none tyI a11, .vw none tyI a12]]⟩ [] trivial ?_ ?_
 refine .seq ?_
 refine .uB [0, 1, 2, 3] [4, 5, 6, 7, 8, 9, 10, 11, 12, 13, 14, 15, 16, 17, 18, 19, 20, 21, 22, 23, 24, 25, 26, 27, 28, 29, 30, 31, 32, 33] [] [] rfl trivial ?_ ?_
 obtain ⟨r2, h11, hF⟩ := bindE hF
 refine .uC false [] (S_spec_KnowOk k a1 a2 r2 h11) rfl ?_ ?_
 refine .uN [5] [6, 7, 8, 9, 10, 11, 12, 13, 14, 15, 16, 17, 18, 19, 20, 21, 22, 23, 24, 25, 26, 27, 28, 29, 30, 31, 32, 33] [] [] rfl trivial ?_ ?_
 rcases condE hF with ⟨he, hF⟩ | ⟨he, hF⟩
 ·
  refine WT.putB [8, 7] he ?_ ?_
  refine .uN [6, 7, 8, 9] [10, 11, 12, 13, 14, 15, 16, 17, 18, 19, 20, 21, 22, 23, 24, 25, 26, 27, 28, 29, 30, 31, 32, 33] [] [] rfl trivial ?_ ?_
  obtain ⟨r3, h10, hF⟩ := bindE hF
  refine .uC false [] (S_spec_l18Link k a1 a3 a4 a5 a6 r3 h10) rfl ?_ ?_
  refine .uN [11, 12] [13, 14, 15, 16, 17, 18, 19, 20, 21, 22, 23, 24, 25, 26, 27, 28, 29, 30, 31, 32, 33] [] [] rfl trivial ?_ ?_
  rcases condE hF with ⟨he, hF⟩ | ⟨he, hF⟩
  ·
   refine WT.putB [15, 14, 13] he ?_ ?_
   refine .uN [13, 14, 15, 16] [17, 18, 19, 20, 21, 22, 23, 24, 25, 26, 27, 28, 29, 30, 31, 32, 33] [] [] rfl trivial ?_ ?_
   obtain ⟨r4, h9, hF⟩ := bindE hF
   refine .uC false [] (S_spec_l18Link k a1 a7 a8 a9 a10 r4 h9) rfl ?_ ?_
   refine .uN [18, 19] [20, 21, 22, 23, 24, 25, 26, 27, 28, 29, 30, 31, 32, 33] [] [] rfl trivial ?_ ?_
   rcases condE hF with ⟨he, hF⟩ | ⟨he, hF⟩
   ·
    refine WT.putB [22, 21, 20] he ?_ ?_
    refine .uN [20, 21, 22, 23] [24, 25, 26, 27, 28, 29, 30, 31, 32, 33] [] [] rfl trivial ?_ ?_
    obtain ⟨r5, h8, hF⟩ := bindE hF
    refine .uC false [] (S_spec_l19Terms k a1 a11 r5 h8) rfl ?_ ?_
    refine .uN [25, 26] [27, 28, 29, 30, 31, 32, 33] [] [] rfl trivial ?_ ?_
    rcases condE hF with ⟨he, hF⟩ | ⟨he, hF⟩
    ·
     refine WT.putB [29, 28, 27] he ?_ ?_
     refine .uN [27, 28, 29, 30] [31, 32, 33] [] [] rfl trivial ?_ ?_
     obtain ⟨r6, h7, hF⟩ := bindE hF
     refine .uC false [] (S_spec_l19Terms k a1 a12 r6 h7) rfl ?_ ?_
     refine .vE [] (some ([0], [1, 2, 4])) [] trivial ?_ ?_
     cases hF
     exact .xR hE [] [] (by kernel_rfl)
     all_goals kernel_rfl
    ·
     refine WT.putB [29, 28, 27] he ?_ ?_
     refine .vE [] (some ([0], [1, 2, 4])) [] trivial ?_ ?_
     cases hF
     exact .xR hE [] [] (by kernel_rfl)
     all_goals kernel_rfl
    all_goals kernel_rfl
   ·
    refine WT.putB [22, 21, 20] he ?_ ?_
    refine .vE [] (some ([0], [1, 2, 4])) [] trivial ?_ ?_
    cases hF
    exact .xR hE [] [] (by kernel_rfl)
    all_goals kernel_rfl
   all_goals kernel_rfl
  ·
   refine WT.putB [15, 14, 13] he ?_ ?_
   refine .vE [] (some ([0], [1, 2, 4])) [] trivial ?_ ?_
   cases hF
   exact .xR hE [] [] (by kernel_rfl)
   all_goals kernel_rfl
  all_goals kernel_rfl
 ·
  refine WT.putB [8, 7] he ?_ ?_
  refine .vE [] (some ([0], [1, 2, 4])) [] trivial ?_ ?_
  cases hF
  exact .xR hE [] [] (by kernel_rfl)
  all_goals kernel_rfl
 all_goals kernel_rfl
theorem S_spec_l19Action (k : Nat) (a1 : Int) (a2 : Int) (a3 : ByteArray) (r : Bool) (hF : F_spec_l19Action k a1 a2 a3 = some r) : Spec Tryz.prog 35 [aG [ci a1, ci a2, .str a3]] [] (bB r) [] := by
 refine Spec.of 0 29 Tryz.func35 rfl rfl (Nat.le_of_ble_eq_true rfl) rfl fun w0 S0 Z0 M0 R0 hE => ?_
 unfold F_spec_l19Action at hF
 refine .seq ?_
 refine .vW [] (some ([0], [1, 2])) [] trivial ?_ ?_
 refine .seq ?_
 refine .vW [] (some ([0, 1], [1, 2, 3])) [] trivial ?_ ?_
 refine .seq ?_
 refine .seq ?_
 refine .xW [] (some ([0, 1], [1, 2, 3, 8])) ⟨[(1, pT 0 0), (2, bB false), (3, pT 1 0), (8, iI a1)], [.box [ci a1, ci a2, .str a3], .box [ci a1, ci 0, .str (⟨#[]⟩ : ByteArray)]]⟩ [] trivial ?_ ?_
 refine WT.join (f := fun v8 => F_spec_l19Action_J1 k a1 a2 a3 v8) (r := r) (S := fun v8 => ⟨[(1, pT 0 0), (2, bB false), (3, pT 1 0)], [.box [ci a1, ci a2, .str a3], .box [ci a1, ci v8.1, .str v8.2]]⟩) (fun v8 hF => ?_) (fun hJJ1 => ?_)
 ·
  unfold F_spec_l19Action_J1 at hF
  refine .seq ?_
  refine .vW [] (some ([], [2])) [] trivial ?_ ?_
  cases hF
  exact .xR hE [] [] (by kernel_rfl)
  all_goals kernel_rfl
 ·
  refine .block ?_
  refine .seq ?_
  refine .xW [] (some ([0, 1], [1, 2, 3, 8, 9])) ⟨[(1, pT 0 0), (2, bB false), (3, pT 1 0), (8, iI a1), (9, bB (a1 == 1))], [.box [ci a1, ci a2, .str a3], .box [ci a1, ci 0, .str (⟨#[]⟩ : ByteArray)]]⟩ [] trivial ?_ ?_
  rcases condE hF with ⟨he, hF⟩ | ⟨he, hF⟩
  ·
   refine .xT he ?_ ?_
   refine .vW [] (some ([0, 1], [1, 2, 3])) [] trivial ?_ ?_
   refine .inBlock ?_
   exact .xS [.pick [0, 1] [1, 2, 3]] (hJJ1 (a2, (⟨#[]⟩ : ByteArray)) hF) (by kernel_rfl)
   all_goals kernel_rfl
  ·
   refine .xF he ?_ ?_
   refine .seq ?_
   refine .xW [] (some ([0, 1], [1, 2, 3, 8, 14])) ⟨[(1, pT 0 0), (2, bB false), (3, pT 1 0), (8, iI a1), (14, bB (a1 == 4))], [.box [ci a1, ci a2, .str a3], .box [ci a1, ci 0, .str (⟨#[]⟩ : ByteArray)]]⟩ [] trivial ?_ ?_
   rcases condE hF with ⟨he, hF⟩ | ⟨he, hF⟩
   ·
    refine .xT he ?_ ?_
    refine .vW [] (some ([0, 1], [1, 2, 3])) [] trivial ?_ ?_
    refine .inBlock ?_
    exact .xS [.pick [0, 1] [1, 2, 3]] (hJJ1 (0, a3) hF) (by kernel_rfl)
    all_goals kernel_rfl
   ·
    refine .xF he ?_ ?_
    refine .seq ?_
    refine .seq ?_
    refine .xW [] (some ([0, 1], [1, 2, 3, 8, 19])) ⟨[(1, pT 0 0), (2, bB false), (3, pT 1 0), (8, iI a1), (19, bB (a1 == 2))], [.box [ci a1, ci a2, .str a3], .box [ci a1, ci 0, .str (⟨#[]⟩ : ByteArray)]]⟩ [] trivial ?_ ?_
    refine WT.join (f := fun v6 => F_spec_l19Action_J4 k a1 a2 a3 v6) (r := r) (S := fun v6 => ⟨[(1, pT 0 0), (2, bB false), (3, pT 1 0), (19, bB v6)], [.box [ci a1, ci a2, .str a3], .box [ci a1, ci 0, .str (⟨#[]⟩ : ByteArray)]]⟩) (fun v6 hF => ?_) (fun hJJ4 => ?_)
    ·
     unfold F_spec_l19Action_J4 at hF
     rcases condE hF with ⟨he, hF⟩ | ⟨he, hF⟩
     ·
      refine .xT he ?_ ?_
      refine .seq ?_
      refine .vW [] (some ([0, 1], [1, 2, 3])) [] trivial ?_ ?_
      cases hF
      exact .xR hE [] [] (by kernel_rfl)
      all_goals kernel_rfl
     ·
      refine .xF he ?_ ?_
      refine .seq ?_
      refine .vW [] (some ([0, 1], [1, 2, 3])) [] trivial ?_ ?_
      cases hF
      exact .xR hE [] [] (by kernel_rfl)
      all_goals kernel_rfl
     all_goals kernel_rfl
    ·
     rcases condE hF with ⟨he, hF⟩ | ⟨he, hF⟩
     ·
      refine WT.putB [19] he ?_ ?_
      refine .yT ?_ ?_
      refine .skip ?_
      exact .xS [.pick [0, 1] [1, 2, 3, 19]] (hJJ4 (true) hF) (by kernel_rfl)
      all_goals kernel_rfl
     ·
      refine WT.putB [19] he ?_ ?_
      refine .yF ?_ ?_
      refine .seq ?_
      refine .xW [] (some ([0, 1], [1, 2, 3, 8, 19])) ⟨[(1, pT 0 0), (2, bB false), (3, pT 1 0), (8, iI a1), (19, bB (a1 == 3))], [.box [ci a1, ci a2, .str a3], .box [ci a1, ci 0, .str (⟨#[]⟩ : ByteArray)]]⟩ [] trivial ?_ ?_
      rcases condE hF with ⟨he, hF⟩ | ⟨he, hF⟩
      ·
       refine WT.putB [19] he ?_ ?_
       refine .yT ?_ ?_
       refine .skip ?_
       exact .xS [.pick [0, 1] [1, 2, 3, 19]] (hJJ4 (true) hF) (by kernel_rfl)
       all_goals kernel_rfl
      ·
       refine WT.putB [19] he ?_ ?_
       refine .yF ?_ ?_
       refine .vW [] (some ([0, 1], [1, 2, 3, 19])) [] trivial ?_ ?_
       exact .xS [.pick [0, 1] [1, 2, 3, 19]] (hJJ4 (a1 == 5) hF) (by kernel_rfl)
       all_goals kernel_rfl
      all_goals kernel_rfl
     all_goals kernel_rfl
    all_goals kernel_rfl
   all_goals kernel_rfl
  all_goals kernel_rfl
 all_goals kernel_rfl
theorem S_spec_l18End (k : Nat) (a1 : (List (Int × (Int × Int)))) (a2 : Int) (r : Bool) (hF : F_spec_l18End k a1 a2 = some r) : Spec Tryz.prog 102 [aG [.vw none tyIII a1], iI a2] [] (bB r) [] := by
 refine Spec.of 0 12 Tryz.func102 rfl rfl (Nat.le_of_ble_eq_true rfl) rfl fun w0 S0 Z0 M0 R0 hE => ?_
 unfold F_spec_l18End at hF
 refine .seq ?_
 refine .vW [] (some ([0], [1, 2, 4])) [] trivial ?_ ?_
 refine .seq ?_
 obtain ⟨x1, h2, hF⟩ := bindE hF
 refine .vW [.el tyIII x1] (some ([], [4])) [at? a1 a2 = some x1] ⟨h2, trivial⟩ ?_ ?_
 cases hF
 exact .xR hE [] [] (by kernel_rfl)
 all_goals kernel_rfl
theorem S_spec_l1Add (k : Nat) (a1 : (List (Int × (Int × Int)))) (a2 : Int) (a3 : Int) (a4 : Int) (r : (List (Int × (Int × Int))) × Int) (hF : F_spec_l1Add k a1 a2 a3 a4 = some r) : Spec Tryz.prog 106 [aG [.vw none tyIII a1], aG [ci a2, ci a3, ci a4]] [] (.tup [.agg [.vw none tyIII r.1], .c (ci r.2)]) [] := by
 refine Spec.of 0 57 Tryz.func106 rfl rfl (Nat.le_of_ble_eq_true rfl) rfl fun w0 S0 Z0 M0 R0 hE => ?_
 unfold F_spec_l1Add at hF
 refine .seq ?_
 refine .xW [] (some ([0, 1, 2], [2, 3, 4, 5])) ⟨[(2, pT 0 0), (3, pT 1 0), (4, pT 2 0), (5, iI 0)], [.box [.vw none tyIII a1], .box [ci a2, ci a3, ci a4], .box [.nilsl]]⟩ [] trivial ?_ ?_
 refine .seq ?_
 refine .seq ?_
 refine WT.join (f := fun v2 => F_spec_l1Add_J1 k a1 a2 a3 a4 v2) (r := r) (S := fun v2 => ⟨[(2, pT 0 0), (3, pT 1 0), (4, pT 2 0), (5, iI 0), (17, bB v2)], [.box [.vw none tyIII a1], .box [ci a2, ci a3, ci a4], .box [.nilsl]]⟩) (fun v2 hF => ?_) (fun hJJ1 => ?_)
 ·
  unfold F_spec_l1Add_J1 at hF
  refine WT.join (f := fun v4 => F_spec_l1Add_J3 k a1 a2 v4) (r := r) (S := fun v4 => ⟨[(2, pT 0 0), (3, pT 1 0), (4, pT 2 0), (5, iI 0)], [.box [.vw none tyIII a1], .box [ci a2, ci v4.1, ci v4.2], .box [.nilsl]]⟩) (fun v4 hF => ?_) (fun hJJ3 => ?_)
  ·
   unfold F_spec_l1Add_J3 at hF
   refine .seq ?_
   refine .uB [0, 1] [2, 3] [] [] rfl trivial ?_ ?_
   obtain ⟨r5, h17, hF⟩ := bindE hF
   refine .uC false [] (S_spec_l1Find k a1 a2 v4.1 v4.2 r5 h17) rfl ?_ ?_
   refine .vE [] (some ([0, 1, 2], [2, 3, 4, 5, 6])) [] trivial ?_ ?_
   refine .seq ?_
   refine .seq ?_
   refine .xW [] (some ([0, 1, 2], [2, 3, 4, 5, 6, 29])) ⟨[(2, pT 0 0), (3, pT 1 0), (4, pT 2 0), (5, iI 0), (6, iI r5), (29, bB (decide (r5 ≥ 0)))], [.box [.vw none tyIII a1], .box [ci a2, ci v4.1, ci v4.2], .box [.nilsl]]⟩ [] trivial ?_ ?_
   rcases condE hF with ⟨he, hF⟩ | ⟨he, hF⟩
   ·
    refine .xT he ?_ ?_
    refine .seq ?_
    refine .vW [] (some ([0, 1, 2], [2, 3, 4, 5])) [] trivial ?_ ?_
    cases hF
    exact .xR hE [] [] (by kernel_rfl)
    all_goals kernel_rfl
   ·
    refine .xF he ?_ ?_
    refine .skip ?_
    refine .seq ?_
    refine .seq ?_
    refine WT.join (f := fun v9 => F_spec_l1Add_J7 k a1 a2 v4 v9) (r := r) (S := fun v9 => ⟨[(2, pT 0 0), (3, pT 1 0), (4, pT 2 0), (5, iI 0), (43, bB v9)], [.box [.vw none tyIII a1], .box [ci a2, ci v4.1, ci v4.2], .box [.nilsl]]⟩) (fun v9 hF => ?_) (fun hJJ7 => ?_)
    ·
     unfold F_spec_l1Add_J7 at hF
     rcases condE hF with ⟨he, hF⟩ | ⟨he, hF⟩
     ·
      refine .xT he ?_ ?_
      refine .seq ?_
      refine .vW [] (some ([0, 1, 2], [2, 3, 4, 5])) [] trivial ?_ ?_
      cases hF
      exact .xR hE [] [] (by kernel_rfl)
      all_goals kernel_rfl
     ·
      refine .xF he ?_ ?_
      refine .skip ?_
      refine .seq ?_
      refine .uB [0] [1, 2, 3] [] [] rfl trivial ?_ ?_
      obtain ⟨r11, h15, hF⟩ := bindE hF
      refine .uC false [] (S_spec_l1Copy k a1 r11 h15) rfl ?_ ?_
      refine .xE [] (some ([0, 1, 2, 4, 3], [2, 3, 4, 5, 7])) ⟨[(2, pT 0 0), (3, pT 1 0), (4, pT 2 0), (5, iI 0), (7, pT 3 0)], [.box [.vw none tyIII a1], .box [ci a2, ci v4.1, ci v4.2], .box [.nilsl], .box [.sl 4], .row tyIII (([] : List (Int × (Int × Int))) ++ a1)]⟩ [] trivial ?_ ?_
      refine .seq ?_
      refine .uB [0, 1, 2, 3] [4, 5, 6] [.el tyIII (0, (0, 0))] [] rfl trivial ?_ ?_
      obtain ⟨h14, hF⟩ := iteE hF
      refine .uO [.tmp 48, .tmp 50] false [.whole 4, .whole 5] (append_rows (d := tyIII) (xs := ([] : List (Int × (Int × Int))) ++ a1) (ys := [(a2, (v4.1, v4.2))]) rfl (by kernel_rfl) h14) rfl ?_ ?_
      refine .xE [] (some ([0, 2, 3, 6], [2, 4, 5, 7])) ⟨[(2, pT 0 0), (4, pT 1 0), (5, iI 0), (7, pT 2 0)], [.box [.vw none tyIII a1], .box [.nilsl], .box [.sl 3], .row tyIII ((([] : List (Int × (Int × Int))) ++ a1) ++ [(a2, (v4.1, v4.2))])]⟩ [] trivial ?_ ?_
      refine .seq ?_
      refine WA.xs [.cells 0 0 1, .cells 2 0 1] [.cells 1 0 1] ?_ ?_
      refine WA.fin 6 [] [] (some ([1, 3], [4, 5])) ⟨[(4, pT 0 0), (5, iI (a1.length : Int))], [.box [.sl 1], .row tyIII ((([] : List (Int × (Int × Int))) ++ a1) ++ [(a2, (v4.1, v4.2))])]⟩ trivial ?_ ?_
      cases hF
      exact .xR hE [.frz 1] [] (by kernel_rfl)
      all_goals kernel_rfl
     all_goals kernel_rfl
    ·
     refine .uB [0, 1, 2, 3] [4, 5, 6, 7, 8, 9, 10, 11] [] [] rfl trivial ?_ ?_
     obtain ⟨r8, h16, hF⟩ := bindE hF
     refine .uC false [] (S_spec_l1Right k a2 v4.1 v4.2 (a1.length : Int) r8 h16) rfl ?_ ?_
     refine .uN [5, 6] [7, 8, 9, 10, 11] [] [] rfl trivial ?_ ?_
     rcases condE hF with ⟨he, hF⟩ | ⟨he, hF⟩
     ·
      refine WT.putB [38, 37] he ?_ ?_
      refine .vE [] (some ([0, 1, 2], [2, 3, 4, 5, 43])) [] trivial ?_ ?_
      exact .xS [.pick [0, 1, 2] [2, 3, 4, 5, 43]] (hJJ7 (true) hF) (by kernel_rfl)
      all_goals kernel_rfl
     ·
      refine WT.putB [38, 37] he ?_ ?_
      refine .vE [] (some ([0, 1, 2], [2, 3, 4, 5, 43])) [] trivial ?_ ?_
      exact .xS [.pick [0, 1, 2] [2, 3, 4, 5, 43]] (hJJ7 ((a1.length : Int) == 500) hF) (by kernel_rfl)
      all_goals kernel_rfl
     all_goals kernel_rfl
    all_goals kernel_rfl
   all_goals kernel_rfl
  ·
   rcases condE hF with ⟨he, hF⟩ | ⟨he, hF⟩
   ·
    refine .xT he ?_ ?_
    refine .vW [] (some ([0, 1, 2], [2, 3, 4, 5])) [] trivial ?_ ?_
    exact .xS [.pick [0, 1, 2] [2, 3, 4, 5]] (hJJ3 (a4, a3) hF) (by kernel_rfl)
    all_goals kernel_rfl
   ·
    refine .xF he ?_ ?_
    refine .skip ?_
    exact .xS [.pick [0, 1, 2] [2, 3, 4, 5]] (hJJ3 (a3, a4) hF) (by kernel_rfl)
    all_goals kernel_rfl
   all_goals kernel_rfl
  all_goals kernel_rfl
 ·
  refine .uB [0, 1, 2, 3] [4, 5, 6, 7, 8, 9] [] [] rfl trivial ?_ ?_
  rcases condE hF with ⟨he, hF⟩ | ⟨he, hF⟩
  ·
   refine WT.putB [11, 10] he ?_ ?_
   refine .vE [] (some ([0, 1, 2], [2, 3, 4, 5, 17])) [] trivial ?_ ?_
   exact .xS [.pick [0, 1, 2] [2, 3, 4, 5, 17]] (hJJ1 (decide (a3 > a4)) hF) (by kernel_rfl)
   all_goals kernel_rfl
  ·
   refine WT.putB [11, 10] he ?_ ?_
   refine .vE [] (some ([0, 1, 2], [2, 3, 4, 5, 17])) [] trivial ?_ ?_
   exact .xS [.pick [0, 1, 2] [2, 3, 4, 5, 17]] (hJJ1 (false) hF) (by kernel_rfl)
   all_goals kernel_rfl
  all_goals kernel_rfl
 all_goals kernel_rfl
theorem S_spec_l2Name (k : Nat) (a1 : (List (Int × (Int × Int)))) (a2 : Int) (r : (List (Int × (Int × Int))) × Int) (hF : F_spec_l2Name k a1 a2 = some r) : Spec Tryz.prog 105 [aG [.vw none tyIII a1], iI a2] [] (.tup [.agg [.vw none tyIII r.1], .c (ci r.2)]) [] := by
 refine Spec.of 0 12 Tryz.func105 rfl rfl (Nat.le_of_ble_eq_true rfl) rfl fun w0 S0 Z0 M0 R0 hE => ?_
 unfold F_spec_l2Name at hF
 refine .seq ?_
 refine .xW [] (some ([0, 1], [1, 2, 4, 5])) ⟨[(1, iI a2), (2, pT 0 0), (4, pT 1 0), (5, iI 0)], [.box [.vw none tyIII a1], .box [.nilsl]]⟩ [] trivial ?_ ?_
 refine .seq ?_
 refine .uB [0, 1, 2] [3, 4, 5, 6, 7] [] [] rfl trivial ?_ ?_
 obtain ⟨r1, h2, hF⟩ := bindE hF
 refine .uC false [] (S_spec_l1Add k a1 1 a2 0 r1 h2) rfl ?_ ?_
 refine .vE [] (some ([1], [4, 5])) [] trivial ?_ ?_
 cases hF
 exact .xR hE [] [] (by kernel_rfl)
 all_goals kernel_rfl
theorem S_spec_l18Word (k : Nat) (a1 : (List (Int × (Int × Int)))) (a2 : Int) (a3 : Int) (a4 : Int) (a5 : Bool) (a6 : Int) (r : (List (Int × (Int × Int))) × Int) (hF : F_spec_l18Word k a1 a2 a3 a4 a5 a6 = some r) : Spec Tryz.prog 103 [aG [.vw none tyIII a1], aG [ci a2, ci a3, ci a4, .bool a5], iI a6] [] (.tup [.agg [.vw none tyIII r.1], .c (ci r.2)]) [] := by
 refine Spec.of 0 48 Tryz.func103 rfl rfl (Nat.le_of_ble_eq_true rfl) rfl fun w0 S0 Z0 M0 R0 hE => ?_
 unfold F_spec_l18Word at hF
 refine .seq ?_
 refine .xW [] (some ([0, 1, 2], [2, 3, 4, 6, 7])) ⟨[(2, iI a6), (3, pT 0 0), (4, pT 1 0), (6, pT 2 0), (7, iI 0)], [.box [.vw none tyIII a1], .box [ci a2, ci a3, ci a4, .bool a5], .box [.nilsl]]⟩ [] trivial ?_ ?_
 refine .seq ?_
 refine .uB [0, 1, 2, 3] [4, 5, 6, 7, 8, 9, 10] [] [] rfl trivial ?_ ?_
 obtain ⟨r1, h9, hF⟩ := bindE hF
 refine .uC false [] (S_spec_l2Name k a1 (w64 (20 + a4)) r1 h9) rfl ?_ ?_
 refine .vE [] (some ([0, 1, 2, 3], [2, 3, 4, 6, 7, 8, 9])) [] trivial ?_ ?_
 refine .seq ?_
 refine .seq ?_
 refine .xW [] (some ([0, 1, 2, 3], [2, 3, 4, 6, 7, 8, 9, 21])) ⟨[(2, iI a6), (3, pT 0 0), (4, pT 1 0), (6, pT 2 0), (7, iI 0), (8, pT 3 0), (9, iI r1.2), (21, bB (decide (r1.2 < 0)))], [.box [.vw none tyIII a1], .box [ci a2, ci a3, ci a4, .bool a5], .box [.nilsl], .box [.vw none tyIII r1.1]]⟩ [] trivial ?_ ?_
 rcases condE hF with ⟨he, hF⟩ | ⟨he, hF⟩
 ·
  refine .xT he ?_ ?_
  refine .seq ?_
  refine .vW [] (some ([0, 1, 2, 3], [2, 3, 4, 6, 7, 8, 9])) [] trivial ?_ ?_
  cases hF
  exact .xR hE [] [] (by kernel_rfl)
  all_goals kernel_rfl
 ·
  refine .xF he ?_ ?_
  refine .skip ?_
  refine .seq ?_
  refine .uB [0, 1, 2, 3] [4, 5, 6, 7, 8, 9] [] [] rfl trivial ?_ ?_
  obtain ⟨r3, h8, hF⟩ := bindE hF
  refine .uC false [] (S_spec_l1Add k r1.1 2 r1.2 a6 r3 h8) rfl ?_ ?_
  refine .vE [] (some ([0, 1, 2, 3], [3, 4, 6, 7, 8, 10])) [] trivial ?_ ?_
  refine .seq ?_
  refine .seq ?_
  refine .xW [] (some ([0, 1, 2, 3], [3, 4, 6, 7, 8, 10, 32])) ⟨[(3, pT 0 0), (4, pT 1 0), (6, pT 2 0), (7, iI 0), (8, pT 3 0), (10, iI r3.2), (32, bB (decide (r3.2 < 0)))], [.box [.vw none tyIII a1], .box [ci a2, ci a3, ci a4, .bool a5], .box [.nilsl], .box [.vw none tyIII r3.1]]⟩ [] trivial ?_ ?_
  rcases condE hF with ⟨he, hF⟩ | ⟨he, hF⟩
  ·
   refine .xT he ?_ ?_
   refine .seq ?_
   refine .vW [] (some ([0, 1, 2, 3], [3, 4, 6, 7, 8, 10])) [] trivial ?_ ?_
   cases hF
   exact .xR hE [] [] (by kernel_rfl)
   all_goals kernel_rfl
  ·
   refine .xF he ?_ ?_
   refine .skip ?_
   refine .seq ?_
   refine .uB [0, 1, 2, 3, 4] [5, 6, 7, 8, 9, 10] [] [] rfl trivial ?_ ?_
   obtain ⟨r5, h7, hF⟩ := bindE hF
   refine .uC false [] (S_spec_l1Add k r3.1 3 r3.2 a2 r5 h7) rfl ?_ ?_
   refine .vE [] (some ([0, 2, 3], [3, 6, 7, 8, 11])) [] trivial ?_ ?_
   refine .seq ?_
   refine .seq ?_
   refine .xW [] (some ([0, 1, 2], [3, 6, 7, 8, 11, 44])) ⟨[(3, pT 0 0), (6, pT 1 0), (7, iI 0), (8, pT 2 0), (11, iI r5.2), (44, bB (decide (r5.2 < 0)))], [.box [.vw none tyIII a1], .box [.nilsl], .box [.vw none tyIII r5.1]]⟩ [] trivial ?_ ?_
   rcases condE hF with ⟨he, hF⟩ | ⟨he, hF⟩
   ·
    refine .xT he ?_ ?_
    refine .seq ?_
    refine .vW [] (some ([1, 2], [6, 7, 8, 11])) [] trivial ?_ ?_
    cases hF
    exact .xR hE [] [] (by kernel_rfl)
    all_goals kernel_rfl
   ·
    refine .xF he ?_ ?_
    refine .skip ?_
    refine .seq ?_
    refine .vW [] (some ([1], [6, 7])) [] trivial ?_ ?_
    cases hF
    exact .xR hE [] [] (by kernel_rfl)
    all_goals kernel_rfl
   all_goals kernel_rfl
  all_goals kernel_rfl
 all_goals kernel_rfl
theorem S_spec_l18Send (k : Nat) (a1 : (List (Int × (Int × Int)))) (a2 : Int) (a3 : Int) (a4 : Int) (a5 : Bool) (a6 : Int) (r : (List (Int × (Int × Int))) × Int × Int) (hF : F_spec_l18Send k a1 a2 a3 a4 a5 a6 = some r) : Spec Tryz.prog 73 [aG [.vw none tyIII a1], aG [ci a2, ci a3, ci a4, .bool a5], iI a6] [] (.tup [.agg [.vw none tyIII r.1], .agg [ci a2, ci a3, ci r.2.1, .bool a5], .c (ci r.2.2)]) [] := by
 refine Spec.of 0 49 Tryz.func73 rfl rfl (Nat.le_of_ble_eq_true rfl) rfl fun w0 S0 Z0 M0 R0 hE => ?_
 unfold F_spec_l18Send at hF
 refine .seq ?_
 refine .xW [] (some ([0, 1, 2, 3], [2, 3, 4, 6, 7, 8])) ⟨[(2, iI a6), (3, pT 0 0), (4, pT 1 0), (6, pT 2 0), (7, pT 3 0), (8, iI 0)], [.box [.vw none tyIII a1], .box [ci a2, ci a3, ci a4, .bool a5], .box [.nilsl], .box [ci 0, ci 0, ci 0, .bool false]]⟩ [] trivial ?_ ?_
 refine .seq ?_
 refine .seq ?_
 refine WT.join (f := fun v4 => F_spec_l18Send_J1 k a1 a2 a3 a4 a5 a6 v4) (r := r) (S := fun v4 => ⟨[(2, iI a6), (3, pT 0 0), (4, pT 1 0), (6, pT 2 0), (7, pT 3 0), (8, iI 0), (28, bB v4)], [.box [.vw none tyIII a1], .box [ci a2, ci a3, ci a4, .bool a5], .box [.nilsl], .box [ci 0, ci 0, ci 0, .bool false]]⟩) (fun v4 hF => ?_) (fun hJJ1 => ?_)
 ·
  unfold F_spec_l18Send_J1 at hF
  rcases condE hF with ⟨he, hF⟩ | ⟨he, hF⟩
  ·
   refine .xT he ?_ ?_
   refine .seq ?_
   refine WA.xs [.cells 0 0 1, .cells 1 0 4] [.cells 2 0 1, .cells 3 0 4] ?_ ?_
   refine WA.fin 5 [] [] (some ([0, 1, 2, 3], [2, 3, 4, 6, 7, 8])) ⟨[(2, iI a6), (3, pT 0 0), (4, pT 1 0), (6, pT 2 0), (7, pT 3 0), (8, iI (-1))], [.box [.vw none tyIII a1], .box [ci a2, ci a3, ci a4, .bool a5], .box [.vw none tyIII a1], .box [ci a2, ci a3, ci a4, .bool a5]]⟩ trivial ?_ ?_
   cases hF
   exact .xR hE [] [] (by kernel_rfl)
   all_goals kernel_rfl
  ·
   refine .xF he ?_ ?_
   refine .skip ?_
   refine .seq ?_
   refine .uB [0, 1, 2] [3, 4, 5, 6, 7, 8, 9] [] [] rfl trivial ?_ ?_
   obtain ⟨r7, h14, hF⟩ := bindE hF
   refine .uC false [] (S_spec_l18Word k a1 a2 a3 a4 a5 a6 r7 h14) rfl ?_ ?_
   refine .vE [] (some ([0, 1, 2, 3, 4], [3, 4, 6, 7, 8, 9, 10])) [] trivial ?_ ?_
   refine .seq ?_
   refine .seq ?_
   refine .xW [] (some ([0, 1, 2, 3, 4], [3, 4, 6, 7, 8, 9, 10, 39])) ⟨[(3, pT 0 0), (4, pT 1 0), (6, pT 2 0), (7, pT 3 0), (8, iI 0), (9, pT 4 0), (10, iI r7.2), (39, bB (decide (r7.2 < 0)))], [.box [.vw none tyIII a1], .box [ci a2, ci a3, ci a4, .bool a5], .box [.nilsl], .box [ci 0, ci 0, ci 0, .bool false], .box [.vw none tyIII r7.1]]⟩ [] trivial ?_ ?_
   rcases condE hF with ⟨he, hF⟩ | ⟨he, hF⟩
   ·
    refine .xT he ?_ ?_
    refine .seq ?_
    refine WA.xs [.cells 0 0 1, .cells 1 0 4] [.cells 2 0 1, .cells 3 0 4] ?_ ?_
    refine WA.fin 5 [] [] (some ([1, 2, 3, 4], [4, 6, 7, 8, 9, 10])) ⟨[(4, pT 0 0), (6, pT 1 0), (7, pT 2 0), (8, iI (-1)), (9, pT 3 0), (10, iI r7.2)], [.box [ci a2, ci a3, ci a4, .bool a5], .box [.vw none tyIII a1], .box [ci a2, ci a3, ci a4, .bool a5], .box [.vw none tyIII r7.1]]⟩ trivial ?_ ?_
    cases hF
    exact .xR hE [] [] (by kernel_rfl)
    all_goals kernel_rfl
   ·
    refine .xF he ?_ ?_
    refine .skip ?_
    refine .seq ?_
    refine .xW [] (some ([1, 2, 3, 4], [4, 6, 7, 8, 9, 10])) ⟨[(4, pT 0 0), (6, pT 1 0), (7, pT 2 0), (8, iI 0), (9, pT 3 0), (10, iI r7.2)], [.box [ci a2, ci a3, ci (w64 (a4 + 1)), .bool a5], .box [.nilsl], .box [ci 0, ci 0, ci 0, .bool false], .box [.vw none tyIII r7.1]]⟩ [] trivial ?_ ?_
    refine .seq ?_
    refine WA.xs [.cells 0 0 4, .cells 3 0 1] [.cells 1 0 1, .cells 2 0 4] ?_ ?_
    refine WA.fin 6 [] [] (some ([1, 2], [6, 7, 8])) ⟨[(6, pT 0 0), (7, pT 1 0), (8, iI r7.2)], [.box [.vw none tyIII r7.1], .box [ci a2, ci a3, ci (w64 (a4 + 1)), .bool a5]]⟩ trivial ?_ ?_
    cases hF
    exact .xR hE [] [] (by kernel_rfl)
    all_goals kernel_rfl
   all_goals kernel_rfl
  all_goals kernel_rfl
 ·
  refine .uB [0, 1] [2, 3, 4, 5, 6, 7, 8, 9, 10, 11, 12, 13, 14, 15, 16, 17] [] [] rfl trivial ?_ ?_
  obtain ⟨r2, h16, hF⟩ := bindE hF
  refine .uC false [] (S_spec_l1Has k a1 a6 r2 h16) rfl ?_ ?_
  refine .uN [3, 4] [5, 6, 7, 8, 9, 10, 11, 12, 13, 14, 15, 16, 17] [] [] rfl trivial ?_ ?_
  rcases condE hF with ⟨he, hF⟩ | ⟨he, hF⟩
  ·
   refine WT.putB [15, 14] he ?_ ?_
   refine .vE [] (some ([0, 1, 2, 3], [2, 3, 4, 6, 7, 8, 28])) [] trivial ?_ ?_
   exact .xS [.pick [0, 1, 2, 3] [2, 3, 4, 6, 7, 8, 28]] (hJJ1 (true) hF) (by kernel_rfl)
   all_goals kernel_rfl
  ·
   refine WT.putB [15, 14] he ?_ ?_
   refine .uN [5, 6] [7, 8, 9, 10, 11, 12, 13, 14, 15, 16, 17] [] [] rfl trivial ?_ ?_
   obtain ⟨r3, h15, hF⟩ := bindE hF
   refine .uC false [] (S_spec_l18End k a1 a6 r3 h15) rfl ?_ ?_
   refine .uN [8, 9] [10, 11, 12, 13, 14, 15, 16, 17] [] [] rfl trivial ?_ ?_
   rcases condE hF with ⟨he, hF⟩ | ⟨he, hF⟩
   ·
    refine WT.putB [20, 19, 18] he ?_ ?_
    refine .vE [] (some ([0, 1, 2, 3], [2, 3, 4, 6, 7, 8, 28])) [] trivial ?_ ?_
    exact .xS [.pick [0, 1, 2, 3] [2, 3, 4, 6, 7, 8, 28]] (hJJ1 (true) hF) (by kernel_rfl)
    all_goals kernel_rfl
   ·
    refine WT.putB [20, 19, 18] he ?_ ?_
    refine .uN [10, 11, 12, 13] [14, 15, 16, 17] [] [] rfl trivial ?_ ?_
    rcases condE hF with ⟨he, hF⟩ | ⟨he, hF⟩
    ·
     refine WT.putB [24, 23, 22] he ?_ ?_
     refine .vE [] (some ([0, 1, 2, 3], [2, 3, 4, 6, 7, 8, 28])) [] trivial ?_ ?_
     exact .xS [.pick [0, 1, 2, 3] [2, 3, 4, 6, 7, 8, 28]] (hJJ1 (true) hF) (by kernel_rfl)
     all_goals kernel_rfl
    ·
     refine WT.putB [24, 23, 22] he ?_ ?_
     refine .vE [] (some ([0, 1, 2, 3], [2, 3, 4, 6, 7, 8, 28])) [] trivial ?_ ?_
     exact .xS [.pick [0, 1, 2, 3] [2, 3, 4, 6, 7, 8, 28]] (hJJ1 (a4 == 20) hF) (by kernel_rfl)
     all_goals kernel_rfl
    all_goals kernel_rfl
   all_goals kernel_rfl
  all_goals kernel_rfl
 all_goals kernel_rfl
theorem S_spec_KnowHas (k : Nat) (a1 : (List Int)) (a2 : Int) (r : Bool) (hF : F_spec_KnowHas k a1 a2 = some r) : Spec Tryz.prog 132 [vV none tyI a1, iI a2] [] (bB r) [] := by
 refine Spec.of 0 18 Tryz.func132 rfl rfl (Nat.le_of_ble_eq_true rfl) rfl fun w0 S0 Z0 M0 R0 hE => ?_
 unfold F_spec_KnowHas at hF
 refine .seq ?_
 refine .vW [] none [] trivial ?_ ?_
 refine .seq ?_
 refine .seq ?_
 refine .xW [] none ⟨[(5, iI 0), (4, bB false), (0, vV none tyI a1), (1, iI a2)], []⟩ [] trivial ?_ ?_
 refine WT.join (f := fun v13 => F_spec_KnowHas_J1 k v13) (r := r) (S := fun v13 => ⟨[(4, bB false)], []⟩) (fun v13 hF => ?_) (fun hJJ1 => ?_)
 ·
  unfold F_spec_KnowHas_J1 at hF
  refine .seq ?_
  refine .vW [] none [] trivial ?_ ?_
  cases hF
  exact .xR hE [] [] (by kernel_rfl)
  all_goals kernel_rfl
 ·
  refine .block ?_
  refine WT.xL (fun s8 => ⟨[(0, vV none tyI a1), (1, iI a2), (4, bB false), (5, iI s8)], []⟩) (l := fun n x => F_spec_KnowHas_L2 k a1 a2 (F_spec_KnowHas_J1 k) n x) (r := r) [.pick [] [0, 1, 4, 5]] (0) k hF (fun _ => rfl) (fun nL2 s8 ih hF => ?_) ?_
  dsimp only [F_spec_KnowHas_L2] at hF
  refine .seq ?_
  refine .seq ?_
  refine .xW [] (some ([], [0, 1, 4, 5, 9])) ⟨[(0, vV none tyI a1), (1, iI a2), (4, bB false), (5, iI s8), (9, bB (decide (s8 < (a1.length : Int))))], []⟩ [] trivial ?_ ?_
  rcases condE hF with ⟨he, hF⟩ | ⟨he, hF⟩
  ·
   refine .xT he ?_ ?_
   refine .skip ?_
   refine .seq ?_
   refine .block ?_
   refine .seq ?_
   obtain ⟨x11, h15, hF⟩ := bindE hF
   refine .xW [.el tyI x11] (some ([], [0, 1, 4, 5, 17])) ⟨[(0, vV none tyI a1), (1, iI a2), (4, bB false), (5, iI s8), (17, bB (x11 == a2))], []⟩ [at? a1 s8 = some x11] ⟨h15, trivial⟩ ?_ ?_
   rcases condE hF with ⟨he, hF⟩ | ⟨he, hF⟩
   ·
    refine .xT he ?_ ?_
    refine .seq ?_
    refine .vW [] (some ([], [0, 1, 4, 5])) [] trivial ?_ ?_
    cases hF
    exact .xR hE [] [] (by kernel_rfl)
    all_goals kernel_rfl
   ·
    refine .xF he ?_ ?_
    refine .skip ?_
    refine .inBlock ?_
    refine .vW [] (some ([], [0, 1, 4, 5])) [] trivial ?_ ?_
    exact .xS [.pick [] [0, 1, 4, 5]] (ih (w64 (s8 + 1)) hF) (by kernel_rfl)
    all_goals kernel_rfl
   all_goals kernel_rfl
  ·
   refine .xF he ?_ ?_
   refine .exit rfl ?_
   exact .xS [.pick [] [4]] (hJJ1 () hF) (by kernel_rfl)
   all_goals kernel_rfl
  all_goals kernel_rfl
 all_goals kernel_rfl
theorem S_spec_l6Put (k : Nat) (a1 : (List Int)) (a2 : Int) (r : (List Int)) (hF : F_spec_l6Put k a1 a2 = some r) : Spec Tryz.prog 104 [vV none tyI a1, iI a2] [] (sL 0) [.row tyI r] := by
 refine Spec.of 0 46 Tryz.func104 rfl rfl (Nat.le_of_ble_eq_true rfl) rfl fun w0 S0 Z0 M0 R0 hE => ?_
 unfold F_spec_l6Put at hF
 refine .seq ?_
 refine .vW [] none [] trivial ?_ ?_
 refine .seq ?_
 refine .xW [.el tyI 0] (some ([0], [0, 1, 4, 5])) ⟨[(0, vV none tyI a1), (1, iI a2), (4, .p (.c (.nilsl))), (5, sL 0)], [.row tyI ([] : List Int)]⟩ [] trivial ?_ ?_
 refine .seq ?_
 refine .uB [0, 1] [2, 3] [] [] rfl trivial ?_ ?_
 obtain ⟨r1, h34, hF⟩ := bindE hF
 refine .uC false [] (S_spec_KnowHas k a1 a2 r1 h34) rfl ?_ ?_
 refine .vE [] (some ([0], [0, 1, 4, 5, 6])) [] trivial ?_ ?_
 refine .seq ?_
 refine .seq ?_
 refine .xW [] none ⟨[(7, iI 0), (0, vV none tyI a1), (1, iI a2), (4, .p (.c (.nilsl))), (5, sL 0), (6, bB r1)], [.row tyI ([] : List Int)]⟩ [] trivial ?_ ?_
 refine WT.join (f := fun v22 => F_spec_l6Put_J2 k a2 v22) (r := r) (S := fun v22 => ⟨[(1, iI a2), (4, .p (.c (.nilsl))), (5, sL 0), (6, bB v22.1)], [.row tyI v22.2]⟩) (fun v22 hF => ?_) (fun hJJ2 => ?_)
 ·
  unfold F_spec_l6Put_J2 at hF
  refine .seq ?_
  refine .seq ?_
  refine .xW [] (some ([0], [1, 4, 5, 40])) ⟨[(1, iI a2), (4, .p (.c (.nilsl))), (5, sL 0), (40, bB (!v22.1))], [.row tyI v22.2]⟩ [] trivial ?_ ?_
  refine WT.join (f := fun v24 => F_spec_l6Put_J23 k v24) (r := r) (S := fun v24 => ⟨[(4, .p (.c (.nilsl))), (5, sL 0)], [.row tyI v24]⟩) (fun v24 hF => ?_) (fun hJJ23 => ?_)
  ·
   unfold F_spec_l6Put_J23 at hF
   refine .seq ?_
   refine .vW [] (some ([0], [4])) [] trivial ?_ ?_
   cases hF
   exact .xR hE [] [0] (by kernel_rfl)
   all_goals kernel_rfl
  ·
   rcases condE hF with ⟨he, hF⟩ | ⟨he, hF⟩
   ·
    refine .xT he ?_ ?_
    refine .uB [0, 1, 2] [3, 4] [.el tyI 0] [] rfl trivial ?_ ?_
    obtain ⟨h25, hF⟩ := iteE hF
    refine .uO [.tmp 41, .tmp 43] false [.whole 0, .whole 1] (append_rows (d := tyI) (xs := v22.2) (ys := [a2]) rfl (by kernel_rfl) h25) rfl ?_ ?_
    refine .vE [] (some ([2], [4, 5])) [] trivial ?_ ?_
    exact .xS [.pick [0] [4, 5]] (hJJ23 (v22.2 ++ [a2]) hF) (by kernel_rfl)
    all_goals kernel_rfl
   ·
    refine .xF he ?_ ?_
    refine .skip ?_
    exact .xS [.pick [0] [4, 5]] (hJJ23 (v22.2) hF) (by kernel_rfl)
    all_goals kernel_rfl
   all_goals kernel_rfl
  all_goals kernel_rfl
 ·
  refine .block ?_
  refine WT.xL (fun s13 => ⟨[(0, vV none tyI a1), (1, iI a2), (4, .p (.c (.nilsl))), (5, sL 0), (6, bB s13.1), (7, iI s13.2.1)], [.row tyI s13.2.2]⟩) (l := fun n x => F_spec_l6Put_L3 k a1 a2 (F_spec_l6Put_J2 k a2) n x) (r := r) [.pick [0] [0, 1, 4, 5, 6, 7]] (r1, 0, ([] : List Int)) k hF (fun _ => rfl) (fun nL3 s13 ih hF => ?_) ?_
  dsimp only [F_spec_l6Put_L3] at hF
  refine .seq ?_
  refine .seq ?_
  refine .xW [] (some ([0], [0, 1, 4, 5, 6, 7, 15])) ⟨[(0, vV none tyI a1), (1, iI a2), (4, .p (.c (.nilsl))), (5, sL 0), (6, bB s13.1), (7, iI s13.2.1), (15, bB (decide (s13.2.1 < (a1.length : Int))))], [.row tyI s13.2.2]⟩ [] trivial ?_ ?_
  rcases condE hF with ⟨he, hF⟩ | ⟨he, hF⟩
  ·
   refine .xT he ?_ ?_
   refine .skip ?_
   refine .seq ?_
   refine .block ?_
   refine .seq ?_
   refine .seq ?_
   refine WT.join (f := fun v18 => F_spec_l6Put_J16 k a1 a2 s13 (F_spec_l6Put_L3 k a1 a2 (F_spec_l6Put_J2 k a2) nL3) v18) (r := r) (S := fun v18 => ⟨[(0, vV none tyI a1), (1, iI a2), (4, .p (.c (.nilsl))), (5, sL 0), (6, bB s13.1), (7, iI s13.2.1), (27, bB v18)], [.row tyI s13.2.2]⟩) (fun v18 hF => ?_) (fun hJJ16 => ?_)
   ·
    unfold F_spec_l6Put_J16 at hF
    refine WT.join (f := fun v20 => F_spec_l6Put_J19 k a1 s13 (F_spec_l6Put_L3 k a1 a2 (F_spec_l6Put_J2 k a2) nL3) v20) (r := r) (S := fun v20 => ⟨[(0, vV none tyI a1), (1, iI a2), (4, .p (.c (.nilsl))), (5, sL 0), (6, bB v20.1), (7, iI s13.2.1)], [.row tyI v20.2]⟩) (fun v20 hF => ?_) (fun hJJ19 => ?_)
    ·
     unfold F_spec_l6Put_J19 at hF
     obtain ⟨x21, h30, hF⟩ := bindE hF
     refine .uB [0, 1, 2, 3, 4, 5] [6, 7] [.el tyI x21, .el tyI 0] [at? a1 s13.2.1 = some x21] rfl ⟨h30, trivial⟩ ?_ ?_
     obtain ⟨h31, hF⟩ := iteE hF
     refine .uO [.tmp 32, .tmp 37] false [.whole 0, .whole 1] (append_rows (d := tyI) (xs := v20.2) (ys := [x21]) rfl (by kernel_rfl) h31) rfl ?_ ?_
     refine .vE [] (some ([2], [0, 1, 4, 5, 6, 7])) [] trivial ?_ ?_
     refine .inBlock ?_
     refine .vW [] (some ([0], [0, 1, 4, 5, 6, 7])) [] trivial ?_ ?_
     exact .xS [.pick [0] [0, 1, 4, 5, 6, 7]] (ih (v20.1, w64 (s13.2.1 + 1), v20.2 ++ [x21]) hF) (by kernel_rfl)
     all_goals kernel_rfl
    ·
     rcases condE hF with ⟨he, hF⟩ | ⟨he, hF⟩
     ·
      refine .xT he ?_ ?_
      refine .seq ?_
      refine .uB [0, 1, 2] [3, 4] [.el tyI 0] [] rfl trivial ?_ ?_
      obtain ⟨h32, hF⟩ := iteE hF
      refine .uO [.tmp 28, .tmp 30] false [.whole 0, .whole 1] (append_rows (d := tyI) (xs := s13.2.2) (ys := [a2]) rfl (by kernel_rfl) h32) rfl ?_ ?_
      refine .vE [] (some ([2], [0, 1, 4, 5, 7])) [] trivial ?_ ?_
      refine .vW [] none [] trivial ?_ ?_
      exact .xS [.pick [0] [0, 1, 4, 5, 6, 7]] (hJJ19 (true, s13.2.2 ++ [a2]) hF) (by kernel_rfl)
      all_goals kernel_rfl
     ·
      refine .xF he ?_ ?_
      refine .skip ?_
      exact .xS [.pick [0] [0, 1, 4, 5, 6, 7]] (hJJ19 (s13.1, s13.2.2) hF) (by kernel_rfl)
      all_goals kernel_rfl
     all_goals kernel_rfl
    all_goals kernel_rfl
   ·
    refine .uB [0, 1, 2] [3, 4, 5, 6, 7, 8, 9] [] [] rfl trivial ?_ ?_
    rcases condE hF with ⟨he, hF⟩ | ⟨he, hF⟩
    ·
     refine WT.putB [20, 19] he ?_ ?_
     obtain ⟨x17, h33, hF⟩ := bindE hF
     refine .vE [.el tyI x17] (some ([0], [0, 1, 4, 5, 6, 7, 27])) [at? a1 s13.2.1 = some x17] ⟨h33, trivial⟩ ?_ ?_
     exact .xS [.pick [0] [0, 1, 4, 5, 6, 7, 27]] (hJJ16 (decide (x17 > a2)) hF) (by kernel_rfl)
     all_goals kernel_rfl
    ·
     refine WT.putB [20, 19] he ?_ ?_
     refine .vE [] (some ([0], [0, 1, 4, 5, 6, 7, 27])) [] trivial ?_ ?_
     exact .xS [.pick [0] [0, 1, 4, 5, 6, 7, 27]] (hJJ16 (false) hF) (by kernel_rfl)
     all_goals kernel_rfl
    all_goals kernel_rfl
   all_goals kernel_rfl
  ·
   refine .xF he ?_ ?_
   refine .exit rfl ?_
   exact .xS [.pick [0] [1, 4, 5, 6]] (hJJ2 (s13.1, s13.2.2) hF) (by kernel_rfl)
   all_goals kernel_rfl
  all_goals kernel_rfl
 all_goals kernel_rfl
theorem S_spec_l19Hear (k : Nat) (a1 : (List (Int × (Int × Int)))) (a2 : (List Int)) (a3 : Int) (a4 : Int) (a5 : Int) (a6 : Bool) (a7 : Int) (a8 : Int) (a9 : Int) (a10 : Bool) (a11 : (List Int)) (a12 : (List Int)) (a13 : Int) (r : (List Int) × Bool) (hF : F_spec_l19Hear k a1 a2 a3 a4 a5 a6 a7 a8 a9 a10 a11 a12 a13 = some r) : Spec Tryz.prog 74 [aG [.vw none tyIII a1, .vw none tyI a2, ci a3, ci a4, ci a5, .bool a6, ci a7, ci a8, ci a9, .bool a10, .vw none tyI a11, .vw none tyI a12], iI a13] [] (.tup [.agg [.vw none tyIII a1, .vw none tyI r.1, ci a3, ci a4, ci a5, .bool a6, ci a7, ci a8, ci a9, .bool a10, .vw none tyI a11, .vw none tyI a12], .c (.bool r.2)]) [] := by
 refine Spec.of 0 19 Tryz.func74 rfl rfl (Nat.le_of_ble_eq_true rfl) rfl fun w0 S0 Z0 M0 R0 hE => ?_
 unfold F_spec_l19Hear at hF
 refine .seq ?_
 refine .vW [] (some ([0, 1], [1, 2, 4, 5])) [] trivial ?_ ?_
 refine .seq ?_
 refine .seq ?_
 refine .xW [] (some ([0, 1], [1, 2, 4, 5, 7])) ⟨[(1, iI a13), (2, pT 0 0), (4, pT 1 0), (5, bB false), (7, bB (decide (a13 < 0)))], [.box [.vw none tyIII a1, .vw none tyI a2, ci a3, ci a4, ci a5, .bool a6, ci a7, ci a8, ci a9, .bool a10, .vw none tyI a11, .vw none tyI a12], .box [.nilsl, .nilsl, ci 0, ci 0, ci 0, .bool false, ci 0, ci 0, ci 0, .bool false, .nilsl, .nilsl]]⟩ [] trivial ?_ ?_
 rcases condE hF with ⟨he, hF⟩ | ⟨he, hF⟩
 ·
  refine .xT he ?_ ?_
  refine .seq ?_
  refine .vW [] (some ([0, 1], [1, 2, 4, 5])) [] trivial ?_ ?_
  cases hF
  exact .xR hE [] [] (by kernel_rfl)
  all_goals kernel_rfl
 ·
  refine .xF he ?_ ?_
  refine .skip ?_
  refine .seq ?_
  refine .uB [0, 1, 2] [3, 4, 5] [] [] rfl trivial ?_ ?_
  obtain ⟨r2, h5, hF⟩ := bindE hF
  refine .uC false [] (S_spec_l6Put k a2 a13 r2 h5) rfl ?_ ?_
  refine .xE [] (some ([0, 1, 2], [2, 4, 5])) ⟨[(2, pT 0 0), (4, pT 1 0), (5, bB false)], [.box [.vw none tyIII a1, .sl 2, ci a3, ci a4, ci a5, .bool a6, ci a7, ci a8, ci a9, .bool a10, .vw none tyI a11, .vw none tyI a12], .box [.nilsl, .nilsl, ci 0, ci 0, ci 0, .bool false, ci 0, ci 0, ci 0, .bool false, .nilsl, .nilsl], .row tyI r2]⟩ [] trivial ?_ ?_
  refine .seq ?_
  refine WA.xs [.cells 0 0 12, .cells 0 1 1] [.cells 1 0 12] ?_ ?_
  refine WA.fin 7 [] [] (some ([1, 2], [4, 5])) ⟨[(4, pT 0 0), (5, bB (decide ((r2.length : Int) ≤ 200)))], [.box [.vw none tyIII a1, .sl 1, ci a3, ci a4, ci a5, .bool a6, ci a7, ci a8, ci a9, .bool a10, .vw none tyI a11, .vw none tyI a12], .row tyI r2]⟩ trivial ?_ ?_
  cases hF
  exact .xR hE [.frz 1] [] (by kernel_rfl)
  all_goals kernel_rfl
 all_goals kernel_rfl
theorem S_spec_l18Close (k : Nat) (a1 : (List (Int × (Int × Int)))) (a2 : Int) (a3 : Int) (a4 : Int) (a5 : Bool) (r : (List (Int × (Int × Int))) × Bool × Int) (hF : F_spec_l18Close k a1 a2 a3 a4 a5 = some r) : Spec Tryz.prog 75 [aG [.vw none tyIII a1], aG [ci a2, ci a3, ci a4, .bool a5]] [] (.tup [.agg [.vw none tyIII r.1], .agg [ci a2, ci a3, ci a4, .bool r.2.1], .c (ci r.2.2)]) [] := by
 refine Spec.of 0 43 Tryz.func75 rfl rfl (Nat.le_of_ble_eq_true rfl) rfl fun w0 S0 Z0 M0 R0 hE => ?_
 unfold F_spec_l18Close at hF
 refine .seq ?_
 refine .xW [] (some ([0, 1, 2, 3], [2, 3, 4, 5, 6])) ⟨[(2, pT 0 0), (3, pT 1 0), (4, pT 2 0), (5, pT 3 0), (6, iI 0)], [.box [.vw none tyIII a1], .box [ci a2, ci a3, ci a4, .bool a5], .box [.nilsl], .box [ci 0, ci 0, ci 0, .bool false]]⟩ [] trivial ?_ ?_
 refine .seq ?_
 refine .seq ?_
 refine WT.join (f := fun v2 => F_spec_l18Close_J1 k a1 a2 a3 a4 a5 v2) (r := r) (S := fun v2 => ⟨[(2, pT 0 0), (3, pT 1 0), (4, pT 2 0), (5, pT 3 0), (6, iI 0), (16, bB v2)], [.box [.vw none tyIII a1], .box [ci a2, ci a3, ci a4, .bool a5], .box [.nilsl], .box [ci 0, ci 0, ci 0, .bool false]]⟩) (fun v2 hF => ?_) (fun hJJ1 => ?_)
 ·
  unfold F_spec_l18Close_J1 at hF
  rcases condE hF with ⟨he, hF⟩ | ⟨he, hF⟩
  ·
   refine .xT he ?_ ?_
   refine .seq ?_
   refine WA.xs [.cells 0 0 1, .cells 1 0 4] [.cells 2 0 1, .cells 3 0 4] ?_ ?_
   refine WA.fin 5 [] [] (some ([0, 1, 2, 3], [2, 3, 4, 5, 6])) ⟨[(2, pT 0 0), (3, pT 1 0), (4, pT 2 0), (5, pT 3 0), (6, iI (-1))], [.box [.vw none tyIII a1], .box [ci a2, ci a3, ci a4, .bool a5], .box [.vw none tyIII a1], .box [ci a2, ci a3, ci a4, .bool a5]]⟩ trivial ?_ ?_
   cases hF
   exact .xR hE [] [] (by kernel_rfl)
   all_goals kernel_rfl
  ·
   refine .xF he ?_ ?_
   refine .skip ?_
   refine .seq ?_
   refine .uB [0] [1, 2, 3, 4, 5, 6, 7] [] [] rfl trivial ?_ ?_
   obtain ⟨r5, h17, hF⟩ := bindE hF
   refine .uC false [] (S_spec_l2Name k a1 8 r5 h17) rfl ?_ ?_
   refine .vE [] (some ([0, 1, 2, 3, 4], [2, 3, 4, 5, 6, 7, 8])) [] trivial ?_ ?_
   refine .seq ?_
   refine .seq ?_
   refine .xW [] (some ([0, 1, 2, 3, 4], [2, 3, 4, 5, 6, 7, 8, 25])) ⟨[(2, pT 0 0), (3, pT 1 0), (4, pT 2 0), (5, pT 3 0), (6, iI 0), (7, pT 4 0), (8, iI r5.2), (25, bB (decide (r5.2 < 0)))], [.box [.vw none tyIII a1], .box [ci a2, ci a3, ci a4, .bool a5], .box [.nilsl], .box [ci 0, ci 0, ci 0, .bool false], .box [.vw none tyIII r5.1]]⟩ [] trivial ?_ ?_
   rcases condE hF with ⟨he, hF⟩ | ⟨he, hF⟩
   ·
    refine .xT he ?_ ?_
    refine .seq ?_
    refine WA.xs [.cells 0 0 1, .cells 1 0 4] [.cells 2 0 1, .cells 3 0 4] ?_ ?_
    refine WA.fin 5 [] [] (some ([0, 1, 2, 3, 4], [2, 3, 4, 5, 6, 7, 8])) ⟨[(2, pT 0 0), (3, pT 1 0), (4, pT 2 0), (5, pT 3 0), (6, iI (-1)), (7, pT 4 0), (8, iI r5.2)], [.box [.vw none tyIII a1], .box [ci a2, ci a3, ci a4, .bool a5], .box [.vw none tyIII a1], .box [ci a2, ci a3, ci a4, .bool a5], .box [.vw none tyIII r5.1]]⟩ trivial ?_ ?_
    cases hF
    exact .xR hE [] [] (by kernel_rfl)
    all_goals kernel_rfl
   ·
    refine .xF he ?_ ?_
    refine .skip ?_
    refine .seq ?_
    refine .uB [0, 1, 2] [3, 4, 5, 6, 7, 8] [] [] rfl trivial ?_ ?_
    obtain ⟨r8, h16, hF⟩ := bindE hF
    refine .uC false [] (S_spec_l18Word k r5.1 a2 a3 a4 a5 r5.2 r8 h16) rfl ?_ ?_
    refine .vE [] (some ([0, 1, 2, 3, 4], [2, 3, 4, 5, 6, 7, 9])) [] trivial ?_ ?_
    refine .seq ?_
    refine .seq ?_
    refine .xW [] (some ([0, 1, 2, 3, 4], [2, 3, 4, 5, 6, 7, 9, 36])) ⟨[(2, pT 0 0), (3, pT 1 0), (4, pT 2 0), (5, pT 3 0), (6, iI 0), (7, pT 4 0), (9, iI r8.2), (36, bB (decide (r8.2 < 0)))], [.box [.vw none tyIII a1], .box [ci a2, ci a3, ci a4, .bool a5], .box [.nilsl], .box [ci 0, ci 0, ci 0, .bool false], .box [.vw none tyIII r8.1]]⟩ [] trivial ?_ ?_
    rcases condE hF with ⟨he, hF⟩ | ⟨he, hF⟩
    ·
     refine .xT he ?_ ?_
     refine .seq ?_
     refine WA.xs [.cells 0 0 1, .cells 1 0 4] [.cells 2 0 1, .cells 3 0 4] ?_ ?_
     refine WA.fin 5 [] [] (some ([1, 2, 3, 4], [3, 4, 5, 6, 7, 9])) ⟨[(3, pT 0 0), (4, pT 1 0), (5, pT 2 0), (6, iI (-1)), (7, pT 3 0), (9, iI r8.2)], [.box [ci a2, ci a3, ci a4, .bool a5], .box [.vw none tyIII a1], .box [ci a2, ci a3, ci a4, .bool a5], .box [.vw none tyIII r8.1]]⟩ trivial ?_ ?_
     cases hF
     exact .xR hE [] [] (by kernel_rfl)
     all_goals kernel_rfl
    ·
     refine .xF he ?_ ?_
     refine .skip ?_
     refine .seq ?_
     refine .xW [] (some ([1, 2, 3, 4], [3, 4, 5, 6, 7, 9])) ⟨[(3, pT 0 0), (4, pT 1 0), (5, pT 2 0), (6, iI 0), (7, pT 3 0), (9, iI r8.2)], [.box [ci a2, ci a3, ci a4, .bool true], .box [.nilsl], .box [ci 0, ci 0, ci 0, .bool false], .box [.vw none tyIII r8.1]]⟩ [] trivial ?_ ?_
     refine .seq ?_
     refine WA.xs [.cells 0 0 4, .cells 3 0 1] [.cells 1 0 1, .cells 2 0 4] ?_ ?_
     refine WA.fin 6 [] [] (some ([1, 2], [4, 5, 6])) ⟨[(4, pT 0 0), (5, pT 1 0), (6, iI r8.2)], [.box [.vw none tyIII r8.1], .box [ci a2, ci a3, ci a4, .bool true]]⟩ trivial ?_ ?_
     cases hF
     exact .xR hE [] [] (by kernel_rfl)
     all_goals kernel_rfl
    all_goals kernel_rfl
   all_goals kernel_rfl
  all_goals kernel_rfl
 ·
  refine .uB [0, 1, 2] [3, 4, 5, 6] [] [] rfl trivial ?_ ?_
  rcases condE hF with ⟨he, hF⟩ | ⟨he, hF⟩
  ·
   refine WT.putB [12, 11] he ?_ ?_
   refine .vE [] (some ([0, 1, 2, 3], [2, 3, 4, 5, 6, 16])) [] trivial ?_ ?_
   exact .xS [.pick [0, 1, 2, 3] [2, 3, 4, 5, 6, 16]] (hJJ1 (true) hF) (by kernel_rfl)
   all_goals kernel_rfl
  ·
   refine WT.putB [12, 11] he ?_ ?_
   refine .vE [] (some ([0, 1, 2, 3], [2, 3, 4, 5, 6, 16])) [] trivial ?_ ?_
   exact .xS [.pick [0, 1, 2, 3] [2, 3, 4, 5, 6, 16]] (hJJ1 (a4 == 20) hF) (by kernel_rfl)
   all_goals kernel_rfl
  all_goals kernel_rfl
 all_goals kernel_rfl
theorem S_spec_l18Turn (k : Nat) (a1 : (List (Int × (Int × Int)))) (a2 : Int) (a3 : Int) (a4 : Int) (a5 : Bool) (r : (List (Int × (Int × Int))) × Int × Int × Int × Bool × Bool) (hF : F_spec_l18Turn k a1 a2 a3 a4 a5 = some r) : Spec Tryz.prog 76 [aG [.vw none tyIII a1], aG [ci a2, ci a3, ci a4, .bool a5]] [] (.tup [.agg [.vw none tyIII r.1], .agg [ci r.2.1, ci r.2.2.1, ci r.2.2.2.1, .bool r.2.2.2.2.1], .c (.bool r.2.2.2.2.2)]) [] := by
 refine Spec.of 0 47 Tryz.func76 rfl rfl (Nat.le_of_ble_eq_true rfl) rfl fun w0 S0 Z0 M0 R0 hE => ?_
 unfold F_spec_l18Turn at hF
 refine .seq ?_
 refine .xW [] (some ([0, 1, 2, 3], [2, 3, 4, 5, 6])) ⟨[(2, pT 0 0), (3, pT 1 0), (4, pT 2 0), (5, pT 3 0), (6, bB false)], [.box [.vw none tyIII a1], .box [ci a2, ci a3, ci a4, .bool a5], .box [.nilsl], .box [ci 0, ci 0, ci 0, .bool false]]⟩ [] trivial ?_ ?_
 refine .seq ?_
 refine .seq ?_
 refine WT.join (f := fun v2 => F_spec_l18Turn_J1 k a1 a2 a3 a4 a5 v2) (r := r) (S := fun v2 => ⟨[(2, pT 0 0), (3, pT 1 0), (4, pT 2 0), (5, pT 3 0), (6, bB false), (16, bB v2)], [.box [.vw none tyIII a1], .box [ci a2, ci a3, ci a4, .bool a5], .box [.nilsl], .box [ci 0, ci 0, ci 0, .bool false]]⟩) (fun v2 hF => ?_) (fun hJJ1 => ?_)
 ·
  unfold F_spec_l18Turn_J1 at hF
  rcases condE hF with ⟨he, hF⟩ | ⟨he, hF⟩
  ·
   refine .xT he ?_ ?_
   refine .seq ?_
   refine WA.xs [.cells 0 0 1, .cells 1 0 4] [.cells 2 0 1, .cells 3 0 4] ?_ ?_
   refine WA.fin 5 [] [] (some ([0, 1, 2, 3], [2, 3, 4, 5, 6])) ⟨[(2, pT 0 0), (3, pT 1 0), (4, pT 2 0), (5, pT 3 0), (6, bB false)], [.box [.vw none tyIII a1], .box [ci a2, ci a3, ci a4, .bool a5], .box [.vw none tyIII a1], .box [ci a2, ci a3, ci a4, .bool a5]]⟩ trivial ?_ ?_
   cases hF
   exact .xR hE [] [] (by kernel_rfl)
   all_goals kernel_rfl
  ·
   refine .xF he ?_ ?_
   refine .skip ?_
   refine .seq ?_
   refine .uB [0] [1, 2, 3, 4, 5, 6, 7] [] [] rfl trivial ?_ ?_
   obtain ⟨r5, h17, hF⟩ := bindE hF
   refine .uC false [] (S_spec_l2Name k a1 7 r5 h17) rfl ?_ ?_
   refine .vE [] (some ([0, 1, 2, 3, 4], [2, 3, 4, 5, 6, 7, 8])) [] trivial ?_ ?_
   refine .seq ?_
   refine .seq ?_
   refine .xW [] (some ([0, 1, 2, 3, 4], [2, 3, 4, 5, 6, 7, 8, 25])) ⟨[(2, pT 0 0), (3, pT 1 0), (4, pT 2 0), (5, pT 3 0), (6, bB false), (7, pT 4 0), (8, iI r5.2), (25, bB (decide (r5.2 < 0)))], [.box [.vw none tyIII a1], .box [ci a2, ci a3, ci a4, .bool a5], .box [.nilsl], .box [ci 0, ci 0, ci 0, .bool false], .box [.vw none tyIII r5.1]]⟩ [] trivial ?_ ?_
   rcases condE hF with ⟨he, hF⟩ | ⟨he, hF⟩
   ·
    refine .xT he ?_ ?_
    refine .seq ?_
    refine WA.xs [.cells 0 0 1, .cells 1 0 4] [.cells 2 0 1, .cells 3 0 4] ?_ ?_
    refine WA.fin 5 [] [] (some ([0, 1, 2, 3, 4], [2, 3, 4, 5, 6, 7, 8])) ⟨[(2, pT 0 0), (3, pT 1 0), (4, pT 2 0), (5, pT 3 0), (6, bB false), (7, pT 4 0), (8, iI r5.2)], [.box [.vw none tyIII a1], .box [ci a2, ci a3, ci a4, .bool a5], .box [.vw none tyIII a1], .box [ci a2, ci a3, ci a4, .bool a5], .box [.vw none tyIII r5.1]]⟩ trivial ?_ ?_
    cases hF
    exact .xR hE [] [] (by kernel_rfl)
    all_goals kernel_rfl
   ·
    refine .xF he ?_ ?_
    refine .skip ?_
    refine .seq ?_
    refine .uB [0, 1, 2, 3, 4] [5, 6, 7, 8, 9, 10] [] [] rfl trivial ?_ ?_
    obtain ⟨r8, h16, hF⟩ := bindE hF
    refine .uC false [] (S_spec_l1Add k r5.1 6 a2 r5.2 r8 h16) rfl ?_ ?_
    refine .vE [] (some ([0, 1, 2, 3, 4], [2, 3, 4, 5, 6, 7, 9])) [] trivial ?_ ?_
    refine .seq ?_
    refine .seq ?_
    refine .xW [] (some ([0, 1, 2, 3, 4], [2, 3, 4, 5, 6, 7, 9, 38])) ⟨[(2, pT 0 0), (3, pT 1 0), (4, pT 2 0), (5, pT 3 0), (6, bB false), (7, pT 4 0), (9, iI r8.2), (38, bB (decide (r8.2 < 0)))], [.box [.vw none tyIII a1], .box [ci a2, ci a3, ci a4, .bool a5], .box [.nilsl], .box [ci 0, ci 0, ci 0, .bool false], .box [.vw none tyIII r8.1]]⟩ [] trivial ?_ ?_
    rcases condE hF with ⟨he, hF⟩ | ⟨he, hF⟩
    ·
     refine .xT he ?_ ?_
     refine .seq ?_
     refine WA.xs [.cells 0 0 1, .cells 1 0 4] [.cells 2 0 1, .cells 3 0 4] ?_ ?_
     refine WA.fin 5 [] [] (some ([1, 2, 3, 4], [3, 4, 5, 6, 7, 9])) ⟨[(3, pT 0 0), (4, pT 1 0), (5, pT 2 0), (6, bB false), (7, pT 3 0), (9, iI r8.2)], [.box [ci a2, ci a3, ci a4, .bool a5], .box [.vw none tyIII a1], .box [ci a2, ci a3, ci a4, .bool a5], .box [.vw none tyIII r8.1]]⟩ trivial ?_ ?_
     cases hF
     exact .xR hE [] [] (by kernel_rfl)
     all_goals kernel_rfl
    ·
     refine .xF he ?_ ?_
     refine .skip ?_
     refine .seq ?_
     refine WA.xs [.cells 1 1 1, .cells 4 0 1] [.cells 2 0 1, .cells 3 0 4] ?_ ?_
     refine WA.fin 9 [] [] (some ([2, 3], [4, 5, 6])) ⟨[(4, pT 0 0), (5, pT 1 0), (6, bB true)], [.box [.vw none tyIII r8.1], .box [ci r8.2, ci (w64 (a3 + 1)), ci 0, .bool false]]⟩ trivial ?_ ?_
     cases hF
     exact .xR hE [] [] (by kernel_rfl)
     all_goals kernel_rfl
    all_goals kernel_rfl
   all_goals kernel_rfl
  all_goals kernel_rfl
 ·
  refine .uB [0, 1, 2] [3, 4, 5, 6] [] [] rfl trivial ?_ ?_
  rcases condE hF with ⟨he, hF⟩ | ⟨he, hF⟩
  ·
   refine WT.putB [12, 11] he ?_ ?_
   refine .vE [] (some ([0, 1, 2, 3], [2, 3, 4, 5, 6, 16])) [] trivial ?_ ?_
   exact .xS [.pick [0, 1, 2, 3] [2, 3, 4, 5, 6, 16]] (hJJ1 (true) hF) (by kernel_rfl)
   all_goals kernel_rfl
  ·
   refine WT.putB [12, 11] he ?_ ?_
   refine .vE [] (some ([0, 1, 2, 3], [2, 3, 4, 5, 6, 16])) [] trivial ?_ ?_
   exact .xS [.pick [0, 1, 2, 3] [2, 3, 4, 5, 6, 16]] (hJJ1 (a3 == 20) hF) (by kernel_rfl)
   all_goals kernel_rfl
  all_goals kernel_rfl
 all_goals kernel_rfl
theorem S_spec_l10Num (k : Nat) (a1 : ByteArray) (a2 : Int) (r : Int × Int × Bool) (hF : F_spec_l10Num k a1 a2 = some r) : Spec Tryz.prog 133 [sS a1, iI a2] [] (.tup [.c (ci r.1), .c (ci r.2.1), .c (.bool r.2.2)]) [] := by
 refine Spec.of 0 65 Tryz.func133 rfl rfl (Nat.le_of_ble_eq_true rfl) rfl fun w0 S0 Z0 M0 R0 hE => ?_
 unfold F_spec_l10Num at hF
 refine .seq ?_
 refine .vW [] none [] trivial ?_ ?_
 refine .seq ?_
 refine .vW [] (some ([], [0, 1, 4, 5, 6, 7])) [] trivial ?_ ?_
 refine .seq ?_
 refine .xW [] none ⟨[(8, iI 0), (0, sS a1), (1, iI a2), (4, iI 0), (5, iI 0), (6, bB false), (7, iI a2)], []⟩ [] trivial ?_ ?_
 refine .seq ?_
 refine WT.join (f := fun v13 => F_spec_l10Num_J1 k a1 a2 v13) (r := r) (S := fun v13 => ⟨[(0, sS a1), (1, iI v13.1), (4, iI 0), (5, iI 0), (6, bB false), (7, iI a2), (8, iI v13.2)], []⟩) (fun v13 hF => ?_) (fun hJJ1 => ?_)
 ·
  unfold F_spec_l10Num_J1 at hF
  refine .seq ?_
  refine .seq ?_
  refine WT.join (f := fun v15 => F_spec_l10Num_J14 k v13 v15) (r := r) (S := fun v15 => ⟨[(1, iI v13.1), (4, iI 0), (5, iI 0), (6, bB false), (8, iI v13.2), (62, bB v15)], []⟩) (fun v15 hF => ?_) (fun hJJ14 => ?_)
  ·
   unfold F_spec_l10Num_J14 at hF
   rcases condE hF with ⟨he, hF⟩ | ⟨he, hF⟩
   ·
    refine .xT he ?_ ?_
    refine .seq ?_
    refine .vW [] (some ([], [1, 4, 5, 6, 8])) [] trivial ?_ ?_
    cases hF
    exact .xR hE [] [] (by kernel_rfl)
    all_goals kernel_rfl
   ·
    refine .xF he ?_ ?_
    refine .skip ?_
    refine .seq ?_
    refine .vW [] (some ([], [4, 5, 6])) [] trivial ?_ ?_
    cases hF
    exact .xR hE [] [] (by kernel_rfl)
    all_goals kernel_rfl
   all_goals kernel_rfl
  ·
   refine .uB [0, 1, 2, 3] [4, 5, 6, 7, 8, 9, 10, 11, 12, 13, 14, 15, 16, 17, 18, 19, 20] [] [] rfl trivial ?_ ?_
   rcases condE hF with ⟨he, hF⟩ | ⟨he, hF⟩
   ·
    refine WT.putB [45, 44] he ?_ ?_
    refine .vE [] (some ([], [1, 4, 5, 6, 8, 62])) [] trivial ?_ ?_
    exact .xS [.pick [] [1, 4, 5, 6, 8, 62]] (hJJ14 (true) hF) (by kernel_rfl)
    all_goals kernel_rfl
   ·
    refine WT.putB [45, 44] he ?_ ?_
    refine .uN [4, 5, 6, 7, 8, 9] [10, 11, 12, 13, 14, 15, 16, 17, 18, 19, 20] [] [] rfl trivial ?_ ?_
    rcases condE hF with ⟨he, hF⟩ | ⟨he, hF⟩
    ·
     refine WT.putB [51, 50, 49] he ?_ ?_
     refine .vE [] (some ([], [1, 4, 5, 6, 8, 62])) [] trivial ?_ ?_
     exact .xS [.pick [] [1, 4, 5, 6, 8, 62]] (hJJ14 (true) hF) (by kernel_rfl)
     all_goals kernel_rfl
    ·
     refine WT.putB [51, 50, 49] he ?_ ?_
     obtain ⟨h17, hF⟩ := iteE hF
     refine .uN [10, 11, 12, 13, 14] [15, 16, 17, 18, 19, 20] [] [(0 : Int) ≤ a2 ∧ a2 < a1.size] rfl ⟨h17, trivial⟩ ?_ ?_
     rcases condE hF with ⟨he, hF⟩ | ⟨he, hF⟩
     ·
      refine WT.putB [56, 55] he ?_ ?_
      refine .vE [] (some ([], [1, 4, 5, 6, 8, 62])) [] trivial ?_ ?_
      exact .xS [.pick [] [1, 4, 5, 6, 8, 62]] (hJJ14 (decide ((w64 (v13.1 - a2)) > 1)) hF) (by kernel_rfl)
      all_goals kernel_rfl
     ·
      refine WT.putB [56, 55] he ?_ ?_
      refine .vE [] (some ([], [1, 4, 5, 6, 8, 62])) [] trivial ?_ ?_
      exact .xS [.pick [] [1, 4, 5, 6, 8, 62]] (hJJ14 (false) hF) (by kernel_rfl)
      all_goals kernel_rfl
     all_goals kernel_rfl
    all_goals kernel_rfl
   all_goals kernel_rfl
  all_goals kernel_rfl
 ·
  refine .block ?_
  refine WT.xL (fun s8 => ⟨[(0, sS a1), (1, iI s8.1), (4, iI 0), (5, iI 0), (6, bB false), (7, iI a2), (8, iI s8.2)], []⟩) (l := fun n x => F_spec_l10Num_L2 k a1 a2 (F_spec_l10Num_J1 k a1 a2) n x) (r := r) [.pick [] [0, 1, 4, 5, 6, 7, 8]] (a2, 0) k hF (fun _ => rfl) (fun nL2 s8 ih hF => ?_) ?_
  dsimp only [F_spec_l10Num_L2] at hF
  refine .seq ?_
  refine .seq ?_
  refine WT.join (f := fun v10 => F_spec_l10Num_J9 k a1 s8 (F_spec_l10Num_J1 k a1 a2) (F_spec_l10Num_L2 k a1 a2 (F_spec_l10Num_J1 k a1 a2) nL2) v10) (r := r) (S := fun v10 => ⟨[(0, sS a1), (1, iI s8.1), (4, iI 0), (5, iI 0), (6, bB false), (7, iI a2), (8, iI s8.2), (31, bB v10)], []⟩) (fun v10 hF => ?_) (fun hJJ9 => ?_)
  ·
   unfold F_spec_l10Num_J9 at hF
   rcases condE hF with ⟨he, hF⟩ | ⟨he, hF⟩
   ·
    refine .xT he ?_ ?_
    refine .skip ?_
    refine .block ?_
    refine .seq ?_
    obtain ⟨h21, hF⟩ := iteE hF
    refine .vW [] (some ([], [0, 1, 4, 5, 6, 7, 8])) [(0 : Int) ≤ s8.1 ∧ s8.1 < a1.size] ⟨h21, trivial⟩ ?_ ?_
    refine .vW [] (some ([], [0, 1, 4, 5, 6, 7, 8])) [] trivial ?_ ?_
    refine .inBlock ?_
    exact .xS [.pick [] [0, 1, 4, 5, 6, 7, 8]] (ih (w64 (s8.1 + 1), w64 ((w64 ((w64 (10 * s8.2)) + (IntKind.i64.wrap (bt a1 s8.1)))) - 48)) hF) (by kernel_rfl)
    all_goals kernel_rfl
   ·
    refine .xF he ?_ ?_
    refine .exit rfl ?_
    exact .xS [.pick [] [0, 1, 4, 5, 6, 7, 8]] (hJJ1 (s8.1, s8.2) hF) (by kernel_rfl)
    all_goals kernel_rfl
   all_goals kernel_rfl
  ·
   refine .uB [0, 1, 2, 3, 4] [5, 6, 7, 8, 9, 10, 11, 12, 13, 14, 15, 16, 17, 18, 19, 20, 21] [] [] rfl trivial ?_ ?_
   rcases condE hF with ⟨he, hF⟩ | ⟨he, hF⟩
   ·
    refine WT.putB [14, 13] he ?_ ?_
    obtain ⟨h22, hF⟩ := iteE hF
    refine .uN [5, 6, 7, 8, 9, 10] [11, 12, 13, 14, 15, 16, 17, 18, 19, 20, 21] [] [(0 : Int) ≤ s8.1 ∧ s8.1 < a1.size] rfl ⟨h22, trivial⟩ ?_ ?_
    rcases condE hF with ⟨he, hF⟩ | ⟨he, hF⟩
    ·
     refine WT.putB [20, 19, 18] he ?_ ?_
     obtain ⟨h23, hF⟩ := iteE hF
     refine .uN [11, 12, 13, 14, 15, 16] [17, 18, 19, 20, 21] [] [(0 : Int) ≤ s8.1 ∧ s8.1 < a1.size] rfl ⟨h23, trivial⟩ ?_ ?_
     rcases condE hF with ⟨he, hF⟩ | ⟨he, hF⟩
     ·
      refine WT.putB [26, 25, 24] he ?_ ?_
      refine .vE [] (some ([], [0, 1, 4, 5, 6, 7, 8, 31])) [] trivial ?_ ?_
      exact .xS [.pick [] [0, 1, 4, 5, 6, 7, 8, 31]] (hJJ9 (decide ((w64 (s8.1 - a2)) < 5)) hF) (by kernel_rfl)
      all_goals kernel_rfl
     ·
      refine WT.putB [26, 25, 24] he ?_ ?_
      refine .vE [] (some ([], [0, 1, 4, 5, 6, 7, 8, 31])) [] trivial ?_ ?_
      exact .xS [.pick [] [0, 1, 4, 5, 6, 7, 8, 31]] (hJJ9 (false) hF) (by kernel_rfl)
      all_goals kernel_rfl
     all_goals kernel_rfl
    ·
     refine WT.putB [20, 19, 18] he ?_ ?_
     refine .vE [] (some ([], [0, 1, 4, 5, 6, 7, 8, 31])) [] trivial ?_ ?_
     exact .xS [.pick [] [0, 1, 4, 5, 6, 7, 8, 31]] (hJJ9 (false) hF) (by kernel_rfl)
     all_goals kernel_rfl
    all_goals kernel_rfl
   ·
    refine WT.putB [14, 13] he ?_ ?_
    refine .vE [] (some ([], [0, 1, 4, 5, 6, 7, 8, 31])) [] trivial ?_ ?_
    exact .xS [.pick [] [0, 1, 4, 5, 6, 7, 8, 31]] (hJJ9 (false) hF) (by kernel_rfl)
    all_goals kernel_rfl
   all_goals kernel_rfl
  all_goals kernel_rfl
 all_goals kernel_rfl
theorem S_spec_l4Name (k : Nat) (a1 : ByteArray) (a2 : Int) (r : Int × Int × Bool) (hF : F_spec_l4Name k a1 a2 = some r) : Spec Tryz.prog 134 [sS a1, iI a2] [] (.tup [.c (ci r.1), .c (ci r.2.1), .c (.bool r.2.2)]) [] := by
 refine Spec.of 0 69 Tryz.func134 rfl rfl (Nat.le_of_ble_eq_true rfl) rfl fun w0 S0 Z0 M0 R0 hE => ?_
 unfold F_spec_l4Name at hF
 refine .seq ?_
 refine .vW [] none [] trivial ?_ ?_
 refine .seq ?_
 refine .vW [] (some ([], [0, 1, 4, 5, 6, 7])) [] trivial ?_ ?_
 refine .seq ?_
 refine .xW [] none ⟨[(8, iI 0), (0, sS a1), (1, iI a2), (4, iI 0), (5, iI 0), (6, bB false), (7, iI a2)], []⟩ [] trivial ?_ ?_
 refine .seq ?_
 refine WT.join (f := fun v13 => F_spec_l4Name_J1 k a1 a2 v13) (r := r) (S := fun v13 => ⟨[(0, sS a1), (1, iI v13.1), (4, iI 0), (5, iI 0), (6, bB false), (7, iI a2), (8, iI v13.2)], []⟩) (fun v13 hF => ?_) (fun hJJ1 => ?_)
 ·
  unfold F_spec_l4Name_J1 at hF
  refine .seq ?_
  refine .seq ?_
  refine WT.join (f := fun v15 => F_spec_l4Name_J14 k v13 v15) (r := r) (S := fun v15 => ⟨[(1, iI v13.1), (4, iI 0), (5, iI 0), (6, bB false), (8, iI v13.2), (66, bB v15)], []⟩) (fun v15 hF => ?_) (fun hJJ14 => ?_)
  ·
   unfold F_spec_l4Name_J14 at hF
   rcases condE hF with ⟨he, hF⟩ | ⟨he, hF⟩
   ·
    refine .xT he ?_ ?_
    refine .seq ?_
    refine .vW [] (some ([], [1, 4, 5, 6, 8])) [] trivial ?_ ?_
    cases hF
    exact .xR hE [] [] (by kernel_rfl)
    all_goals kernel_rfl
   ·
    refine .xF he ?_ ?_
    refine .skip ?_
    refine .seq ?_
    refine .vW [] (some ([], [4, 5, 6])) [] trivial ?_ ?_
    cases hF
    exact .xR hE [] [] (by kernel_rfl)
    all_goals kernel_rfl
   all_goals kernel_rfl
  ·
   refine .uB [0, 1, 2, 3] [4, 5, 6, 7, 8, 9, 10, 11, 12, 13, 14, 15, 16, 17, 18, 19, 20, 21, 22, 23, 24] [] [] rfl trivial ?_ ?_
   rcases condE hF with ⟨he, hF⟩ | ⟨he, hF⟩
   ·
    refine WT.putB [45, 44] he ?_ ?_
    refine .vE [] (some ([], [1, 4, 5, 6, 8, 66])) [] trivial ?_ ?_
    exact .xS [.pick [] [1, 4, 5, 6, 8, 66]] (hJJ14 (true) hF) (by kernel_rfl)
    all_goals kernel_rfl
   ·
    refine WT.putB [45, 44] he ?_ ?_
    refine .uN [4, 5, 6, 7, 8, 9] [10, 11, 12, 13, 14, 15, 16, 17, 18, 19, 20, 21, 22, 23, 24] [] [] rfl trivial ?_ ?_
    rcases condE hF with ⟨he, hF⟩ | ⟨he, hF⟩
    ·
     refine WT.putB [51, 50, 49] he ?_ ?_
     refine .vE [] (some ([], [1, 4, 5, 6, 8, 66])) [] trivial ?_ ?_
     exact .xS [.pick [] [1, 4, 5, 6, 8, 66]] (hJJ14 (true) hF) (by kernel_rfl)
     all_goals kernel_rfl
    ·
     refine WT.putB [51, 50, 49] he ?_ ?_
     obtain ⟨h17, hF⟩ := iteE hF
     refine .uN [10, 11, 12, 13, 14] [15, 16, 17, 18, 19, 20, 21, 22, 23, 24] [] [(0 : Int) ≤ a2 ∧ a2 < a1.size] rfl ⟨h17, trivial⟩ ?_ ?_
     rcases condE hF with ⟨he, hF⟩ | ⟨he, hF⟩
     ·
      refine WT.putB [56, 55] he ?_ ?_
      refine .uN [15, 16, 17, 18, 19, 20, 21] [22, 23, 24] [] [] rfl trivial ?_ ?_
      rcases condE hF with ⟨he, hF⟩ | ⟨he, hF⟩
      ·
       refine WT.putB [63, 62, 61, 60] he ?_ ?_
       refine .vE [] (some ([], [1, 4, 5, 6, 8, 66])) [] trivial ?_ ?_
       exact .xS [.pick [] [1, 4, 5, 6, 8, 66]] (hJJ14 (true) hF) (by kernel_rfl)
       all_goals kernel_rfl
      ·
       refine WT.putB [63, 62, 61, 60] he ?_ ?_
       refine .vE [] (some ([], [1, 4, 5, 6, 8, 66])) [] trivial ?_ ?_
       exact .xS [.pick [] [1, 4, 5, 6, 8, 66]] (hJJ14 (decide (v13.2 ≥ 200)) hF) (by kernel_rfl)
       all_goals kernel_rfl
      all_goals kernel_rfl
     ·
      refine WT.putB [56, 55] he ?_ ?_
      refine .vE [] (some ([], [1, 4, 5, 6, 8, 66])) [] trivial ?_ ?_
      exact .xS [.pick [] [1, 4, 5, 6, 8, 66]] (hJJ14 (decide (v13.2 ≥ 200)) hF) (by kernel_rfl)
      all_goals kernel_rfl
     all_goals kernel_rfl
    all_goals kernel_rfl
   all_goals kernel_rfl
  all_goals kernel_rfl
 ·
  refine .block ?_
  refine WT.xL (fun s8 => ⟨[(0, sS a1), (1, iI s8.1), (4, iI 0), (5, iI 0), (6, bB false), (7, iI a2), (8, iI s8.2)], []⟩) (l := fun n x => F_spec_l4Name_L2 k a1 a2 (F_spec_l4Name_J1 k a1 a2) n x) (r := r) [.pick [] [0, 1, 4, 5, 6, 7, 8]] (a2, 0) k hF (fun _ => rfl) (fun nL2 s8 ih hF => ?_) ?_
  dsimp only [F_spec_l4Name_L2] at hF
  refine .seq ?_
  refine .seq ?_
  refine WT.join (f := fun v10 => F_spec_l4Name_J9 k a1 s8 (F_spec_l4Name_J1 k a1 a2) (F_spec_l4Name_L2 k a1 a2 (F_spec_l4Name_J1 k a1 a2) nL2) v10) (r := r) (S := fun v10 => ⟨[(0, sS a1), (1, iI s8.1), (4, iI 0), (5, iI 0), (6, bB false), (7, iI a2), (8, iI s8.2), (31, bB v10)], []⟩) (fun v10 hF => ?_) (fun hJJ9 => ?_)
  ·
   unfold F_spec_l4Name_J9 at hF
   rcases condE hF with ⟨he, hF⟩ | ⟨he, hF⟩
   ·
    refine .xT he ?_ ?_
    refine .skip ?_
    refine .block ?_
    refine .seq ?_
    obtain ⟨h21, hF⟩ := iteE hF
    refine .vW [] (some ([], [0, 1, 4, 5, 6, 7, 8])) [(0 : Int) ≤ s8.1 ∧ s8.1 < a1.size] ⟨h21, trivial⟩ ?_ ?_
    refine .vW [] (some ([], [0, 1, 4, 5, 6, 7, 8])) [] trivial ?_ ?_
    refine .inBlock ?_
    exact .xS [.pick [] [0, 1, 4, 5, 6, 7, 8]] (ih (w64 (s8.1 + 1), w64 ((w64 ((w64 (10 * s8.2)) + (IntKind.i64.wrap (bt a1 s8.1)))) - 48)) hF) (by kernel_rfl)
    all_goals kernel_rfl
   ·
    refine .xF he ?_ ?_
    refine .exit rfl ?_
    exact .xS [.pick [] [0, 1, 4, 5, 6, 7, 8]] (hJJ1 (s8.1, s8.2) hF) (by kernel_rfl)
    all_goals kernel_rfl
   all_goals kernel_rfl
  ·
   refine .uB [0, 1, 2, 3, 4] [5, 6, 7, 8, 9, 10, 11, 12, 13, 14, 15, 16, 17, 18, 19, 20, 21] [] [] rfl trivial ?_ ?_
   rcases condE hF with ⟨he, hF⟩ | ⟨he, hF⟩
   ·
    refine WT.putB [14, 13] he ?_ ?_
    obtain ⟨h22, hF⟩ := iteE hF
    refine .uN [5, 6, 7, 8, 9, 10] [11, 12, 13, 14, 15, 16, 17, 18, 19, 20, 21] [] [(0 : Int) ≤ s8.1 ∧ s8.1 < a1.size] rfl ⟨h22, trivial⟩ ?_ ?_
    rcases condE hF with ⟨he, hF⟩ | ⟨he, hF⟩
    ·
     refine WT.putB [20, 19, 18] he ?_ ?_
     obtain ⟨h23, hF⟩ := iteE hF
     refine .uN [11, 12, 13, 14, 15, 16] [17, 18, 19, 20, 21] [] [(0 : Int) ≤ s8.1 ∧ s8.1 < a1.size] rfl ⟨h23, trivial⟩ ?_ ?_
     rcases condE hF with ⟨he, hF⟩ | ⟨he, hF⟩
     ·
      refine WT.putB [26, 25, 24] he ?_ ?_
      refine .vE [] (some ([], [0, 1, 4, 5, 6, 7, 8, 31])) [] trivial ?_ ?_
      exact .xS [.pick [] [0, 1, 4, 5, 6, 7, 8, 31]] (hJJ9 (decide ((w64 (s8.1 - a2)) < 4)) hF) (by kernel_rfl)
      all_goals kernel_rfl
     ·
      refine WT.putB [26, 25, 24] he ?_ ?_
      refine .vE [] (some ([], [0, 1, 4, 5, 6, 7, 8, 31])) [] trivial ?_ ?_
      exact .xS [.pick [] [0, 1, 4, 5, 6, 7, 8, 31]] (hJJ9 (false) hF) (by kernel_rfl)
      all_goals kernel_rfl
     all_goals kernel_rfl
    ·
     refine WT.putB [20, 19, 18] he ?_ ?_
     refine .vE [] (some ([], [0, 1, 4, 5, 6, 7, 8, 31])) [] trivial ?_ ?_
     exact .xS [.pick [] [0, 1, 4, 5, 6, 7, 8, 31]] (hJJ9 (false) hF) (by kernel_rfl)
     all_goals kernel_rfl
    all_goals kernel_rfl
   ·
    refine WT.putB [14, 13] he ?_ ?_
    refine .vE [] (some ([], [0, 1, 4, 5, 6, 7, 8, 31])) [] trivial ?_ ?_
    exact .xS [.pick [] [0, 1, 4, 5, 6, 7, 8, 31]] (hJJ9 (false) hF) (by kernel_rfl)
    all_goals kernel_rfl
   all_goals kernel_rfl
  all_goals kernel_rfl
 all_goals kernel_rfl
theorem S_spec_IsPublic (k : Nat) (a1 : Int) (r : Bool) (hF : F_spec_IsPublic k a1 = some r) : Spec Tryz.prog 135 [iI a1] [] (bB r) [] := by
 refine Spec.of 0 5 Tryz.func135 rfl rfl (Nat.le_of_ble_eq_true rfl) rfl fun w0 S0 Z0 M0 R0 hE => ?_
 unfold F_spec_IsPublic at hF
 refine .seq ?_
 refine .xW [] none ⟨[(2, bB false), (0, iI a1)], []⟩ [] trivial ?_ ?_
 refine .seq ?_
 refine .uB [0] [1, 2] [] [] rfl trivial ?_ ?_
 obtain ⟨r1, h2, hF⟩ := bindE hF
 refine .uC false [] (S_spec_l1In k a1 0 49 r1 h2) rfl ?_ ?_
 refine .vE [] (some ([], [2])) [] trivial ?_ ?_
 cases hF
 exact .xR hE [] [] (by kernel_rfl)
 all_goals kernel_rfl
theorem S_spec_l10Apply (k : Nat) (a1 : (List (Int × (Int × Int)))) (a2 : Int) (a3 : Int) (r : Int) (hF : F_spec_l10Apply k a1 a2 a3 = some r) : Spec Tryz.prog 136 [aG [.vw none tyIII a1], .p (.c (.int .u8 a2)), iI a3] [] (iI r) [] := by
 refine Spec.of 0 40 Tryz.func136 rfl rfl (Nat.le_of_ble_eq_true rfl) rfl fun w0 S0 Z0 M0 R0 hE => ?_
 unfold F_spec_l10Apply at hF
 refine .seq ?_
 refine .vW [] (some ([0], [1, 2, 3, 6])) [] trivial ?_ ?_
 refine .seq ?_
 obtain ⟨x1, h12, hF⟩ := bindE hF
 refine .xW [.el tyIII x1] (some ([1], [1, 6, 7])) ⟨[(1, .p (.c (.int .u8 a2))), (6, iI 0), (7, pT 0 0)], [.box [ci x1.1, ci x1.2.1, ci x1.2.2]]⟩ [at? a1 a3 = some x1] ⟨h12, trivial⟩ ?_ ?_
 refine .seq ?_
 refine .block ?_
 refine .seq ?_
 refine .seq ?_
 refine WT.join (f := fun v4 => F_spec_l10Apply_J3 k x1 a2 v4) (r := r) (S := fun v4 => ⟨[(1, .p (.c (.int .u8 a2))), (6, iI 0), (7, pT 0 0), (13, bB v4)], [.box [ci x1.1, ci x1.2.1, ci x1.2.2]]⟩) (fun v4 hF => ?_) (fun hJJ3 => ?_)
 ·
  unfold F_spec_l10Apply_J3 at hF
  refine WT.join (f := fun v7 => F_spec_l10Apply_J5 k x1 a2 v7) (r := r) (S := fun v7 => ⟨[(1, .p (.c (.int .u8 a2))), (6, iI 0), (7, pT 0 0), (13, bB v7)], [.box [ci x1.1, ci x1.2.1, ci x1.2.2]]⟩) (fun v7 hF => ?_) (fun hJJ5 => ?_)
  ·
   unfold F_spec_l10Apply_J5 at hF
   rcases condE hF with ⟨he, hF⟩ | ⟨he, hF⟩
   ·
    refine .xT he ?_ ?_
    refine .seq ?_
    refine .vW [] (some ([], [6])) [] trivial ?_ ?_
    cases hF
    exact .xR hE [] [] (by kernel_rfl)
    all_goals kernel_rfl
   ·
    refine .xF he ?_ ?_
    refine .seq ?_
    refine WT.join (f := fun v10 => F_spec_l10Apply_J9 k x1 v10) (r := r) (S := fun v10 => ⟨[(6, iI 0), (7, pT 0 0), (30, bB v10)], [.box [ci x1.1, ci x1.2.1, ci x1.2.2]]⟩) (fun v10 hF => ?_) (fun hJJ9 => ?_)
    ·
     unfold F_spec_l10Apply_J9 at hF
     rcases condE hF with ⟨he, hF⟩ | ⟨he, hF⟩
     ·
      refine .xT he ?_ ?_
      refine .seq ?_
      refine .vW [] (some ([], [6])) [] trivial ?_ ?_
      cases hF
      exact .xR hE [] [] (by kernel_rfl)
      all_goals kernel_rfl
     ·
      refine .xF he ?_ ?_
      refine .skip ?_
      refine .inBlock ?_
      refine .seq ?_
      refine .vW [] (some ([], [6])) [] trivial ?_ ?_
      cases hF
      exact .xR hE [] [] (by kernel_rfl)
      all_goals kernel_rfl
     all_goals kernel_rfl
    ·
     refine .uB [0, 1, 2] [3, 4, 5, 6, 7] [] [] rfl trivial ?_ ?_
     rcases condE hF with ⟨he, hF⟩ | ⟨he, hF⟩
     ·
      refine WT.putB [33, 32] he ?_ ?_
      refine .vE [] (some ([0], [6, 7, 30])) [] trivial ?_ ?_
      exact .xS [.pick [0] [6, 7, 30]] (hJJ9 (x1.1 == 2) hF) (by kernel_rfl)
      all_goals kernel_rfl
     ·
      refine WT.putB [33, 32] he ?_ ?_
      refine .vE [] (some ([0], [6, 7, 30])) [] trivial ?_ ?_
      exact .xS [.pick [0] [6, 7, 30]] (hJJ9 (false) hF) (by kernel_rfl)
      all_goals kernel_rfl
     all_goals kernel_rfl
    all_goals kernel_rfl
   all_goals kernel_rfl
  ·
   rcases condE hF with ⟨he, hF⟩ | ⟨he, hF⟩
   ·
    refine WT.putB [13] he ?_ ?_
    refine .yT ?_ ?_
    refine .skip ?_
    exact .xS [.pick [0] [1, 6, 7, 13]] (hJJ5 (true) hF) (by kernel_rfl)
    all_goals kernel_rfl
   ·
    refine WT.putB [13] he ?_ ?_
    refine .yF ?_ ?_
    refine .uB [0, 1, 2] [3, 4, 5, 6, 7] [] [] rfl trivial ?_ ?_
    rcases condE hF with ⟨he, hF⟩ | ⟨he, hF⟩
    ·
     refine WT.putB [23, 22] he ?_ ?_
     refine .vE [] (some ([0], [1, 6, 7, 13])) [] trivial ?_ ?_
     exact .xS [.pick [0] [1, 6, 7, 13]] (hJJ5 (x1.1 == 4) hF) (by kernel_rfl)
     all_goals kernel_rfl
    ·
     refine WT.putB [23, 22] he ?_ ?_
     refine .vE [] (some ([0], [1, 6, 7, 13])) [] trivial ?_ ?_
     exact .xS [.pick [0] [1, 6, 7, 13]] (hJJ5 (false) hF) (by kernel_rfl)
     all_goals kernel_rfl
    all_goals kernel_rfl
   all_goals kernel_rfl
  all_goals kernel_rfl
 ·
  refine .uB [0, 1, 2] [3, 4, 5, 6, 7] [] [] rfl trivial ?_ ?_
  rcases condE hF with ⟨he, hF⟩ | ⟨he, hF⟩
  ·
   refine WT.putB [16, 15] he ?_ ?_
   refine .vE [] (some ([0], [1, 6, 7, 13])) [] trivial ?_ ?_
   exact .xS [.pick [0] [1, 6, 7, 13]] (hJJ3 (x1.1 == 2) hF) (by kernel_rfl)
   all_goals kernel_rfl
  ·
   refine WT.putB [16, 15] he ?_ ?_
   refine .vE [] (some ([0], [1, 6, 7, 13])) [] trivial ?_ ?_
   exact .xS [.pick [0] [1, 6, 7, 13]] (hJJ3 (false) hF) (by kernel_rfl)
   all_goals kernel_rfl
  all_goals kernel_rfl
 all_goals kernel_rfl
theorem S_spec_l4Want (k : Nat) (a1 : ByteArray) (a2 : Int) (a3 : Int) (r : Int × Int) (hF : F_spec_l4Want k a1 a2 a3 = some r) : Spec Tryz.prog 154 [sS a1, iI a2, .p (.c (.int .u8 a3))] [] (.tup [.c (ci r.1), .c (ci r.2)]) [] := by
 refine Spec.of 0 24 Tryz.func154 rfl rfl (Nat.le_of_ble_eq_true rfl) rfl fun w0 S0 Z0 M0 R0 hE => ?_
 unfold F_spec_l4Want at hF
 refine .seq ?_
 refine .vW [] none [] trivial ?_ ?_
 refine .seq ?_
 refine .block ?_
 refine .seq ?_
 refine .xW [] (some ([], [0, 1, 2, 6, 7, 8])) ⟨[(0, sS a1), (1, iI a2), (2, .p (.c (.int .u8 a3))), (6, iI 0), (7, iI 0), (8, bB (decide (a2 ≥ (a1.size : Int))))], []⟩ [] trivial ?_ ?_
 rcases condE hF with ⟨he, hF⟩ | ⟨he, hF⟩
 ·
  refine .xT he ?_ ?_
  refine .seq ?_
  refine .vW [] (some ([], [1, 6, 7])) [] trivial ?_ ?_
  cases hF
  exact .xR hE [] [] (by kernel_rfl)
  all_goals kernel_rfl
 ·
  refine .xF he ?_ ?_
  refine .seq ?_
  obtain ⟨h4, hF⟩ := iteE hF
  refine .xW [] (some ([], [1, 6, 7, 15])) ⟨[(1, iI a2), (6, iI 0), (7, iI 0), (15, bB ((bt a1 a2) != a3))], []⟩ [(0 : Int) ≤ a2 ∧ a2 < a1.size] ⟨h4, trivial⟩ ?_ ?_
  rcases condE hF with ⟨he, hF⟩ | ⟨he, hF⟩
  ·
   refine .xT he ?_ ?_
   refine .seq ?_
   refine .vW [] (some ([], [1, 6, 7])) [] trivial ?_ ?_
   cases hF
   exact .xR hE [] [] (by kernel_rfl)
   all_goals kernel_rfl
  ·
   refine .xF he ?_ ?_
   refine .skip ?_
   refine .inBlock ?_
   refine .seq ?_
   refine .vW [] (some ([], [6, 7])) [] trivial ?_ ?_
   cases hF
   exact .xR hE [] [] (by kernel_rfl)
   all_goals kernel_rfl
  all_goals kernel_rfl
 all_goals kernel_rfl
theorem S_spec_l10Two (k : Nat) (q_spec_l10Run : (List (Int × (Int × Int))) → (List Int) → ByteArray → Int → Option ((List (Int × (Int × Int))) × Int × Int × Int)) (hq_spec_l10Run : ∀ (a1 : (List (Int × (Int × Int)))) (a2 : (List Int)) (a3 : ByteArray) (a4 : Int) (r : (List (Int × (Int × Int))) × Int × Int × Int), q_spec_l10Run a1 a2 a3 a4 = some r → Spec Tryz.prog 107 [aG [.vw none tyIII a1], vV none tyI a2, sS a3, iI a4] [] (.tup [.agg [.vw none tyIII r.1], .c (ci r.2.1), .c (ci r.2.2.1), .c (ci r.2.2.2)]) []) (a1 : (List (Int × (Int × Int)))) (a2 : (List Int)) (a3 : ByteArray) (a4 : Int) (a5 : Bool) (a6 : Int) (r : (List (Int × (Int × Int))) × Int × Int × Int × Int) (hF : F_spec_l10Two k q_spec_l10Run a1 a2 a3 a4 a5 a6 = some r) : Spec Tryz.prog 137 [aG [.vw none tyIII a1], vV none tyI a2, sS a3, iI a4, bB a5, .p (.c (.int .u8 a6))] [] (.tup [.agg [.vw none tyIII r.1], .c (ci r.2.1), .c (ci r.2.2.1), .c (ci r.2.2.2.1), .c (ci r.2.2.2.2)]) [] := by
 refine Spec.of 0 75 Tryz.func137 rfl rfl (Nat.le_of_ble_eq_true rfl) rfl fun w0 S0 Z0 M0 R0 hE => ?_
 unfold F_spec_l10Two at hF
 refine .seq ?_
 refine .vW [] (some ([0, 1], [1, 2, 3, 4, 5, 6, 12, 13, 14, 15, 16])) [] trivial ?_ ?_
 refine .seq ?_
 refine .vW [] (some ([0, 1], [1, 2, 3, 4, 5, 6, 12, 13, 14, 15, 16, 17, 18])) [] trivial ?_ ?_
 refine .seq ?_
 refine .seq ?_
 refine .xW [] (some ([0, 1], [1, 2, 3, 5, 6, 12, 13, 14, 15, 16, 17, 18, 22])) ⟨[(1, vV none tyI a2), (2, sS a3), (3, iI a4), (5, .p (.c (.int .u8 a6))), (6, pT 0 0), (12, pT 1 0), (13, iI 0), (14, iI 0), (15, iI 0), (16, iI 0), (17, iI a4), (18, iI 0), (22, bB a5)], [.box [.vw none tyIII a1], .box [.nilsl]]⟩ [] trivial ?_ ?_
 refine WT.join (f := fun v3 => F_spec_l10Two_J1 k a1 a2 a3 a6 q_spec_l10Run v3) (r := r) (S := fun v3 => ⟨[(1, vV none tyI a2), (2, sS a3), (5, .p (.c (.int .u8 a6))), (6, pT 0 0), (12, pT 1 0), (13, iI 0), (14, iI 0), (15, iI 0), (16, iI 0), (17, iI v3.1), (18, iI v3.2)], [.box [.vw none tyIII a1], .box [.nilsl]]⟩) (fun v3 hF => ?_) (fun hJJ1 => ?_)
 ·
  unfold F_spec_l10Two_J1 at hF
  refine .seq ?_
  refine .vW [] none [] trivial ?_ ?_
  refine .seq ?_
  refine .seq ?_
  refine .xW [] (some ([0, 1], [1, 2, 5, 6, 12, 13, 14, 15, 16, 17, 18, 19, 20, 30])) ⟨[(1, vV none tyI a2), (2, sS a3), (5, .p (.c (.int .u8 a6))), (6, pT 0 0), (12, pT 1 0), (13, iI 0), (14, iI 0), (15, iI 0), (16, iI 0), (17, iI v3.1), (18, iI v3.2), (19, iI (-1)), (20, iI (-1)), (30, bB (v3.2 == 0))], [.box [.vw none tyIII a1], .box [.nilsl]]⟩ [] trivial ?_ ?_
  refine WT.join (f := fun v6 => F_spec_l10Two_J4 k a2 a3 a6 q_spec_l10Run v6) (r := r) (S := fun v6 => ⟨[(1, vV none tyI a2), (2, sS a3), (5, .p (.c (.int .u8 a6))), (6, pT 0 0), (12, pT 1 0), (13, iI 0), (14, iI 0), (15, iI 0), (16, iI 0), (17, iI v6.1), (18, iI v6.2.1), (19, iI v6.2.2.1), (20, iI (-1))], [.box [.vw none tyIII v6.2.2.2], .box [.nilsl]]⟩) (fun v6 hF => ?_) (fun hJJ4 => ?_)
  ·
   unfold F_spec_l10Two_J4 at hF
   refine .seq ?_
   refine .seq ?_
   refine .xW [] (some ([0, 1], [1, 2, 5, 6, 12, 13, 14, 15, 16, 17, 18, 19, 20, 42])) ⟨[(1, vV none tyI a2), (2, sS a3), (5, .p (.c (.int .u8 a6))), (6, pT 0 0), (12, pT 1 0), (13, iI 0), (14, iI 0), (15, iI 0), (16, iI 0), (17, iI v6.1), (18, iI v6.2.1), (19, iI v6.2.2.1), (20, iI (-1)), (42, bB (v6.2.1 == 0))], [.box [.vw none tyIII v6.2.2.2], .box [.nilsl]]⟩ [] trivial ?_ ?_
   refine WT.join (f := fun v9 => F_spec_l10Two_J7 k a2 a3 a6 v6 q_spec_l10Run v9) (r := r) (S := fun v9 => ⟨[(1, vV none tyI a2), (2, sS a3), (5, .p (.c (.int .u8 a6))), (6, pT 0 0), (12, pT 1 0), (13, iI 0), (14, iI 0), (15, iI 0), (16, iI 0), (17, iI v9.1), (18, iI v9.2), (19, iI v6.2.2.1), (20, iI (-1))], [.box [.vw none tyIII v6.2.2.2], .box [.nilsl]]⟩) (fun v9 hF => ?_) (fun hJJ7 => ?_)
   ·
    unfold F_spec_l10Two_J7 at hF
    refine .seq ?_
    refine .seq ?_
    refine .xW [] (some ([0, 1], [1, 2, 5, 6, 12, 13, 14, 15, 16, 17, 18, 19, 20, 50])) ⟨[(1, vV none tyI a2), (2, sS a3), (5, .p (.c (.int .u8 a6))), (6, pT 0 0), (12, pT 1 0), (13, iI 0), (14, iI 0), (15, iI 0), (16, iI 0), (17, iI v9.1), (18, iI v9.2), (19, iI v6.2.2.1), (20, iI (-1)), (50, bB (v9.2 == 0))], [.box [.vw none tyIII v6.2.2.2], .box [.nilsl]]⟩ [] trivial ?_ ?_
    refine WT.join (f := fun v12 => F_spec_l10Two_J10 k a3 a6 v6 v12) (r := r) (S := fun v12 => ⟨[(2, sS a3), (5, .p (.c (.int .u8 a6))), (6, pT 0 0), (12, pT 1 0), (13, iI 0), (14, iI 0), (15, iI 0), (16, iI 0), (17, iI v12.1), (18, iI v12.2.1), (19, iI v6.2.2.1), (20, iI v12.2.2.1)], [.box [.vw none tyIII v12.2.2.2], .box [.nilsl]]⟩) (fun v12 hF => ?_) (fun hJJ10 => ?_)
    ·
     unfold F_spec_l10Two_J10 at hF
     refine .seq ?_
     refine .seq ?_
     refine .xW [] (some ([0, 1], [2, 5, 6, 12, 13, 14, 15, 16, 17, 18, 19, 20, 62])) ⟨[(2, sS a3), (5, .p (.c (.int .u8 a6))), (6, pT 0 0), (12, pT 1 0), (13, iI 0), (14, iI 0), (15, iI 0), (16, iI 0), (17, iI v12.1), (18, iI v12.2.1), (19, iI v6.2.2.1), (20, iI v12.2.2.1), (62, bB (v12.2.1 == 0))], [.box [.vw none tyIII v12.2.2.2], .box [.nilsl]]⟩ [] trivial ?_ ?_
     refine WT.join (f := fun v15 => F_spec_l10Two_J13 k v6 v12 v15) (r := r) (S := fun v15 => ⟨[(6, pT 0 0), (12, pT 1 0), (13, iI 0), (14, iI 0), (15, iI 0), (16, iI 0), (17, iI v15.1), (18, iI v15.2), (19, iI v6.2.2.1), (20, iI v12.2.2.1)], [.box [.vw none tyIII v12.2.2.2], .box [.nilsl]]⟩) (fun v15 hF => ?_) (fun hJJ13 => ?_)
     ·
      unfold F_spec_l10Two_J13 at hF
      refine .seq ?_
      refine .vW [] (some ([1], [12, 13, 14, 15, 16])) [] trivial ?_ ?_
      cases hF
      exact .xR hE [] [] (by kernel_rfl)
      all_goals kernel_rfl
     ·
      rcases condE hF with ⟨he, hF⟩ | ⟨he, hF⟩
      ·
       refine .xT he ?_ ?_
       refine .uB [0, 1, 2] [3, 4, 5, 6, 7, 8] [] [] rfl trivial ?_ ?_
       obtain ⟨r14, h16, hF⟩ := bindE hF
       refine .uC false [] (S_spec_l4Want k a3 v12.1 a6 r14 h16) rfl ?_ ?_
       refine .vE [] (some ([0, 1], [6, 12, 13, 14, 15, 16, 17, 18, 19, 20])) [] trivial ?_ ?_
       exact .xS [.pick [0, 1] [6, 12, 13, 14, 15, 16, 17, 18, 19, 20]] (hJJ13 (r14.1, r14.2) hF) (by kernel_rfl)
       all_goals kernel_rfl
      ·
       refine .xF he ?_ ?_
       refine .skip ?_
       exact .xS [.pick [0, 1] [6, 12, 13, 14, 15, 16, 17, 18, 19, 20]] (hJJ13 (v12.1, v12.2.1) hF) (by kernel_rfl)
       all_goals kernel_rfl
      all_goals kernel_rfl
     all_goals kernel_rfl
    ·
     rcases condE hF with ⟨he, hF⟩ | ⟨he, hF⟩
     ·
      refine .xT he ?_ ?_
      refine .uB [0, 1, 2, 3] [4, 5, 6, 7, 8, 9, 10, 11, 12, 13] [] [] rfl trivial ?_ ?_
      obtain ⟨r11, h17, hF⟩ := bindE hF
      refine .uC false [] (hq_spec_l10Run v6.2.2.2 a2 a3 v9.1 r11 h17) rfl ?_ ?_
      refine .vE [] (some ([0, 1], [2, 5, 6, 12, 13, 14, 15, 16, 17, 18, 19, 20])) [] trivial ?_ ?_
      exact .xS [.pick [0, 1] [2, 5, 6, 12, 13, 14, 15, 16, 17, 18, 19, 20]] (hJJ10 (r11.2.2.1, r11.2.2.2, r11.2.1, r11.1) hF) (by kernel_rfl)
      all_goals kernel_rfl
     ·
      refine .xF he ?_ ?_
      refine .skip ?_
      exact .xS [.pick [0, 1] [2, 5, 6, 12, 13, 14, 15, 16, 17, 18, 19, 20]] (hJJ10 (v9.1, v9.2, (-1), v6.2.2.2) hF) (by kernel_rfl)
      all_goals kernel_rfl
     all_goals kernel_rfl
    all_goals kernel_rfl
   ·
    rcases condE hF with ⟨he, hF⟩ | ⟨he, hF⟩
    ·
     refine .xT he ?_ ?_
     refine .uB [0, 1] [2, 3, 4, 5, 6, 7] [] [] rfl trivial ?_ ?_
     obtain ⟨r8, h18, hF⟩ := bindE hF
     refine .uC false [] (S_spec_l4Want k a3 v6.1 44 r8 h18) rfl ?_ ?_
     refine .vE [] (some ([0, 1], [1, 2, 5, 6, 12, 13, 14, 15, 16, 17, 18, 19, 20])) [] trivial ?_ ?_
     exact .xS [.pick [0, 1] [1, 2, 5, 6, 12, 13, 14, 15, 16, 17, 18, 19, 20]] (hJJ7 (r8.1, r8.2) hF) (by kernel_rfl)
     all_goals kernel_rfl
    ·
     refine .xF he ?_ ?_
     refine .skip ?_
     exact .xS [.pick [0, 1] [1, 2, 5, 6, 12, 13, 14, 15, 16, 17, 18, 19, 20]] (hJJ7 (v6.1, v6.2.1) hF) (by kernel_rfl)
     all_goals kernel_rfl
    all_goals kernel_rfl
   all_goals kernel_rfl
  ·
   rcases condE hF with ⟨he, hF⟩ | ⟨he, hF⟩
   ·
    refine .xT he ?_ ?_
    refine .uB [0, 1, 2, 3] [4, 5, 6, 7, 8, 9, 10, 11, 12, 13] [] [] rfl trivial ?_ ?_
    obtain ⟨r5, h19, hF⟩ := bindE hF
    refine .uC false [] (hq_spec_l10Run a1 a2 a3 v3.1 r5 h19) rfl ?_ ?_
    refine .vE [] (some ([0, 1], [1, 2, 5, 6, 12, 13, 14, 15, 16, 17, 18, 19, 20])) [] trivial ?_ ?_
    exact .xS [.pick [0, 1] [1, 2, 5, 6, 12, 13, 14, 15, 16, 17, 18, 19, 20]] (hJJ4 (r5.2.2.1, r5.2.2.2, r5.2.1, r5.1) hF) (by kernel_rfl)
    all_goals kernel_rfl
   ·
    refine .xF he ?_ ?_
    refine .skip ?_
    exact .xS [.pick [0, 1] [1, 2, 5, 6, 12, 13, 14, 15, 16, 17, 18, 19, 20]] (hJJ4 (v3.1, v3.2, (-1), a1) hF) (by kernel_rfl)
    all_goals kernel_rfl
   all_goals kernel_rfl
  all_goals kernel_rfl
 ·
  rcases condE hF with ⟨he, hF⟩ | ⟨he, hF⟩
  ·
   refine .xT he ?_ ?_
   refine .uB [0, 1] [2, 3, 4, 5, 6, 7] [] [] rfl trivial ?_ ?_
   obtain ⟨r2, h20, hF⟩ := bindE hF
   refine .uC false [] (S_spec_l4Want k a3 a4 40 r2 h20) rfl ?_ ?_
   refine .vE [] (some ([0, 1], [1, 2, 5, 6, 12, 13, 14, 15, 16, 17, 18])) [] trivial ?_ ?_
   exact .xS [.pick [0, 1] [1, 2, 5, 6, 12, 13, 14, 15, 16, 17, 18]] (hJJ1 (r2.1, r2.2) hF) (by kernel_rfl)
   all_goals kernel_rfl
  ·
   refine .xF he ?_ ?_
   refine .skip ?_
   exact .xS [.pick [0, 1] [1, 2, 5, 6, 12, 13, 14, 15, 16, 17, 18]] (hJJ1 (a4, 0) hF) (by kernel_rfl)
   all_goals kernel_rfl
  all_goals kernel_rfl
 all_goals kernel_rfl
theorem S_spec_l3Raise (k : Nat) (a1 : (List (Int × (Int × Int)))) (a2 : Int) (a3 : Int) (r : (List (Int × (Int × Int))) × Int) (hF : F_spec_l3Raise k a1 a2 a3 = some r) : Spec Tryz.prog 155 [aG [.vw none tyIII a1], iI a2, iI a3] [] (.tup [.agg [.vw none tyIII r.1], .c (ci r.2)]) [] := by
 refine Spec.of 0 40 Tryz.func155 rfl rfl (Nat.le_of_ble_eq_true rfl) rfl fun w0 S0 Z0 M0 R0 hE => ?_
 unfold F_spec_l3Raise at hF
 refine .seq ?_
 refine .xW [] (some ([0, 1], [1, 2, 3, 6, 7])) ⟨[(1, iI a2), (2, iI a3), (3, pT 0 0), (6, pT 1 0), (7, iI 0)], [.box [.vw none tyIII a1], .box [.nilsl]]⟩ [] trivial ?_ ?_
 refine .seq ?_
 refine .seq ?_
 refine WT.join (f := fun v5 => F_spec_l3Raise_J1 k a1 a2 a3 v5) (r := r) (S := fun v5 => ⟨[(1, iI a2), (2, iI a3), (3, pT 0 0), (6, pT 1 0), (7, iI 0), (26, bB v5)], [.box [.vw none tyIII a1], .box [.nilsl]]⟩) (fun v5 hF => ?_) (fun hJJ1 => ?_)
 ·
  unfold F_spec_l3Raise_J1 at hF
  rcases condE hF with ⟨he, hF⟩ | ⟨he, hF⟩
  ·
   refine .xT he ?_ ?_
   refine .seq ?_
   refine .vW [] (some ([0, 1], [1, 2, 3, 6, 7])) [] trivial ?_ ?_
   cases hF
   exact .xR hE [] [] (by kernel_rfl)
   all_goals kernel_rfl
  ·
   refine .xF he ?_ ?_
   refine .skip ?_
   refine .seq ?_
   obtain ⟨x8, h10, hF⟩ := bindE hF
   obtain ⟨r9, h11, hF⟩ := bindE hF
   refine WA.xs [.cells 0 0 1, .dep none] [.cells 1 0 1] ?_ ?_
   refine WA.lem (pr' := [.cells 0 0 1]) (fuel' := 0) (listed' := #[true, true, true, true, true, true, true, true, true, true, true, true, true, true]) (st' := ⟨[(6, pT 1 0), (7, iI r9.2)], [.box [.vw none tyIII a1], .box [.vw none tyIII r9.1]]⟩) ?_ (fun A13 => ?_)
   ·
    refine WA.xD (some ([1], [6, 7])) ⟨[(6, pT 0 0), (7, iI r9.2)], [.box [.vw none tyIII r9.1]]⟩ ?_ ?_
    cases hF
    exact .xR hE [] [] (by kernel_rfl)
    all_goals kernel_rfl
   refine WA.lem (pr' := [.cells 0 0 1, .dep none]) (fuel' := 5) (listed' := #[true, true, true, true, true, true, true, true, true, false, false, false, false, false]) (st' := ⟨[(6, pT 1 0), (7, iI 0), (28, aG [.vw none tyIII a1]), (36, aG [ci 8, ci a3, ci x8.2.1])], [.box [.vw none tyIII a1], .box [.nilsl]]⟩) ?_ (fun A12 => ?_)
   ·
    refine WA.x1 9 (WO.uC false [] [.cells 0 0 1] (S_spec_l1Add k a1 8 a3 x8.2.1 r9 h11) rfl ?_ ?_) ?_
    exact WA.to 4 [] [] [0, 1] [6, 7] A13 trivial (by kernel_rfl)
    all_goals kernel_rfl
   exact WA.to 9 [.el tyIII x8] [at? a1 a2 = some x8] [0, 1] [6, 7, 28, 36] A12 ⟨h10, trivial⟩ (by kernel_rfl)
   all_goals kernel_rfl
  all_goals kernel_rfl
 ·
  refine .uB [0, 1] [2, 3, 4, 5, 6, 7, 8, 9, 10, 11, 12, 13, 14, 15, 16, 17, 18] [] [] rfl trivial ?_ ?_
  obtain ⟨r2, h16, hF⟩ := bindE hF
  refine .uC false [] (S_spec_l1Has k a1 a2 r2 h16) rfl ?_ ?_
  refine .uN [3, 4] [5, 6, 7, 8, 9, 10, 11, 12, 13, 14, 15, 16, 17, 18] [] [] rfl trivial ?_ ?_
  rcases condE hF with ⟨he, hF⟩ | ⟨he, hF⟩
  ·
   refine WT.putB [12, 11] he ?_ ?_
   refine .vE [] (some ([0, 1], [1, 2, 3, 6, 7, 26])) [] trivial ?_ ?_
   exact .xS [.pick [0, 1] [1, 2, 3, 6, 7, 26]] (hJJ1 (true) hF) (by kernel_rfl)
   all_goals kernel_rfl
  ·
   refine WT.putB [12, 11] he ?_ ?_
   refine .uN [5, 6] [7, 8, 9, 10, 11, 12, 13, 14, 15, 16, 17, 18] [] [] rfl trivial ?_ ?_
   obtain ⟨r3, h15, hF⟩ := bindE hF
   refine .uC false [] (S_spec_l1Has k a1 a3 r3 h15) rfl ?_ ?_
   refine .uN [8, 9, 10] [11, 12, 13, 14, 15, 16, 17, 18] [] [] rfl trivial ?_ ?_
   rcases condE hF with ⟨he, hF⟩ | ⟨he, hF⟩
   ·
    refine WT.putB [18, 17, 16] he ?_ ?_
    refine .vE [] (some ([0, 1], [1, 2, 3, 6, 7, 26])) [] trivial ?_ ?_
    exact .xS [.pick [0, 1] [1, 2, 3, 6, 7, 26]] (hJJ1 (true) hF) (by kernel_rfl)
    all_goals kernel_rfl
   ·
    refine WT.putB [18, 17, 16] he ?_ ?_
    obtain ⟨x4, h14, hF⟩ := bindE hF
    refine .vE [.el tyIII x4] (some ([0, 1], [1, 2, 3, 6, 7, 26])) [at? a1 a2 = some x4] ⟨h14, trivial⟩ ?_ ?_
    exact .xS [.pick [0, 1] [1, 2, 3, 6, 7, 26]] (hJJ1 (x4.1 != 7) hF) (by kernel_rfl)
    all_goals kernel_rfl
   all_goals kernel_rfl
  all_goals kernel_rfl
 all_goals kernel_rfl
theorem S_spec_l10Both (k : Nat) (a1 : (List (Int × (Int × Int)))) (a2 : Int) (a3 : Int) (a4 : Int) (r : (List (Int × (Int × Int))) × Int × Int) (hF : F_spec_l10Both k a1 a2 a3 a4 = some r) : Spec Tryz.prog 138 [aG [.vw none tyIII a1], .p (.c (.int .u8 a2)), iI a3, iI a4] [] (.tup [.agg [.vw none tyIII r.1], .c (ci r.2.1), .c (ci r.2.2)]) [] := by
 refine Spec.of 0 54 Tryz.func138 rfl rfl (Nat.le_of_ble_eq_true rfl) rfl fun w0 S0 Z0 M0 R0 hE => ?_
 unfold F_spec_l10Both at hF
 refine .seq ?_
 refine .vW [] (some ([0, 1], [1, 2, 3, 4, 8, 9, 10])) [] trivial ?_ ?_
 refine .seq ?_
 refine .seq ?_
 refine .xW [] (some ([0, 1], [2, 3, 4, 8, 9, 10, 15])) ⟨[(2, iI a3), (3, iI a4), (4, pT 0 0), (8, pT 1 0), (9, iI 0), (10, iI 0), (15, bB (a2 == 111))], [.box [.vw none tyIII a1], .box [.nilsl]]⟩ [] trivial ?_ ?_
 rcases condE hF with ⟨he, hF⟩ | ⟨he, hF⟩
 ·
  refine .xT he ?_ ?_
  refine .seq ?_
  obtain ⟨x2, h11, hF⟩ := bindE hF
  refine .xW [.el tyIII x2] (some ([0, 1, 2], [2, 3, 4, 8, 9, 10, 11])) ⟨[(2, iI a3), (3, iI a4), (4, pT 0 0), (8, pT 1 0), (9, iI 0), (10, iI 0), (11, pT 2 0)], [.box [.vw none tyIII a1], .box [.nilsl], .box [ci x2.1, ci x2.2.1, ci x2.2.2]]⟩ [at? a1 a3 = some x2] ⟨h11, trivial⟩ ?_ ?_
  refine .seq ?_
  refine .seq ?_
  refine WT.join (f := fun v4 => F_spec_l10Both_J3 k a1 x2 v4) (r := r) (S := fun v4 => ⟨[(2, iI a3), (3, iI a4), (4, pT 0 0), (8, pT 1 0), (9, iI 0), (10, iI 0), (11, pT 2 0), (29, bB v4)], [.box [.vw none tyIII a1], .box [.nilsl], .box [ci x2.1, ci x2.2.1, ci x2.2.2]]⟩) (fun v4 hF => ?_) (fun hJJ3 => ?_)
  ·
   unfold F_spec_l10Both_J3 at hF
   rcases condE hF with ⟨he, hF⟩ | ⟨he, hF⟩
   ·
    refine .xT he ?_ ?_
    refine .seq ?_
    refine .vW [] (some ([0, 1, 2], [2, 3, 4, 8, 9, 10, 11])) [] trivial ?_ ?_
    cases hF
    exact .xR hE [] [] (by kernel_rfl)
    all_goals kernel_rfl
   ·
    refine .xF he ?_ ?_
    refine .skip ?_
    refine .seq ?_
    refine WA.xs [.cells 0 0 1, .cells 2 1 1] [.cells 1 0 1] ?_ ?_
    refine WA.fin 6 [] [] (some ([0, 1], [2, 3, 4, 8, 9, 10])) ⟨[(2, iI a3), (3, iI a4), (4, pT 0 0), (8, pT 1 0), (9, iI x2.2.1), (10, iI 0)], [.box [.vw none tyIII a1], .box [.vw none tyIII a1]]⟩ trivial ?_ ?_
    cases hF
    exact .xR hE [] [] (by kernel_rfl)
    all_goals kernel_rfl
   all_goals kernel_rfl
  ·
   refine .uB [0, 1, 2, 3] [4, 5, 6, 7, 8] [] [] rfl trivial ?_ ?_
   rcases condE hF with ⟨he, hF⟩ | ⟨he, hF⟩
   ·
    refine WT.putB [24, 23] he ?_ ?_
    refine .vE [] (some ([0, 1, 2], [2, 3, 4, 8, 9, 10, 11, 29])) [] trivial ?_ ?_
    exact .xS [.pick [0, 1, 2] [2, 3, 4, 8, 9, 10, 11, 29]] (hJJ3 (true) hF) (by kernel_rfl)
    all_goals kernel_rfl
   ·
    refine WT.putB [24, 23] he ?_ ?_
    refine .vE [] (some ([0, 1, 2], [2, 3, 4, 8, 9, 10, 11, 29])) [] trivial ?_ ?_
    exact .xS [.pick [0, 1, 2] [2, 3, 4, 8, 9, 10, 11, 29]] (hJJ3 (x2.2.2 != a4) hF) (by kernel_rfl)
    all_goals kernel_rfl
   all_goals kernel_rfl
  all_goals kernel_rfl
 ·
  refine .xF he ?_ ?_
  refine .skip ?_
  refine .seq ?_
  refine .seq ?_
  obtain ⟨x7, h13, hF⟩ := bindE hF
  refine .xW [.el tyIII x7] (some ([0, 1], [2, 3, 4, 8, 9, 10, 40])) ⟨[(2, iI a3), (3, iI a4), (4, pT 0 0), (8, pT 1 0), (9, iI 0), (10, iI 0), (40, bB (x7.1 != 7))], [.box [.vw none tyIII a1], .box [.nilsl]]⟩ [at? a1 a4 = some x7] ⟨h13, trivial⟩ ?_ ?_
  rcases condE hF with ⟨he, hF⟩ | ⟨he, hF⟩
  ·
   refine .xT he ?_ ?_
   refine .seq ?_
   refine .vW [] (some ([0, 1], [2, 3, 4, 8, 9, 10])) [] trivial ?_ ?_
   cases hF
   exact .xR hE [] [] (by kernel_rfl)
   all_goals kernel_rfl
  ·
   refine .xF he ?_ ?_
   refine .skip ?_
   refine .seq ?_
   refine .uB [0, 1, 2] [3, 4, 5, 6, 7, 8, 9] [] [] rfl trivial ?_ ?_
   obtain ⟨r9, h14, hF⟩ := bindE hF
   refine .uC false [] (S_spec_l3Raise k a1 a4 a3 r9 h14) rfl ?_ ?_
   refine .vE [] (some ([0, 1, 2], [4, 8, 9, 10, 12, 13])) [] trivial ?_ ?_
   refine .seq ?_
   refine .seq ?_
   refine .xW [] (some ([0, 1, 2], [4, 8, 9, 10, 12, 13, 50])) ⟨[(4, pT 0 0), (8, pT 1 0), (9, iI 0), (10, iI 0), (12, pT 2 0), (13, iI r9.2), (50, bB (decide (r9.2 < 0)))], [.box [.vw none tyIII a1], .box [.nilsl], .box [.vw none tyIII r9.1]]⟩ [] trivial ?_ ?_
   rcases condE hF with ⟨he, hF⟩ | ⟨he, hF⟩
   ·
    refine .xT he ?_ ?_
    refine .seq ?_
    refine .vW [] (some ([1, 2], [8, 9, 10, 12, 13])) [] trivial ?_ ?_
    cases hF
    exact .xR hE [] [] (by kernel_rfl)
    all_goals kernel_rfl
   ·
    refine .xF he ?_ ?_
    refine .skip ?_
    refine .seq ?_
    refine .vW [] (some ([1], [8, 9, 10])) [] trivial ?_ ?_
    cases hF
    exact .xR hE [] [] (by kernel_rfl)
    all_goals kernel_rfl
   all_goals kernel_rfl
  all_goals kernel_rfl
 all_goals kernel_rfl
end Go.Proofs.YtmbbapeiikifgaaGreatDoor
