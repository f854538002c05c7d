/- The functions do what they compute. -/
import Derived.Test.YtmbbapeiikifgaaGreatDoorSlVu
import Derived.Test.YtmbbapeiikifgaaGreatDoorSlLj
import Derived.Test.YtmbbapeiikifgaaGreatDoorShX
import Derived.Test.YtmbbapeiikifgaaGreatDoorProg
import Derived.Test.YtmbbapeiikifgaaGreatDoorPgF
import Derived.KernelRfl
import Derived.Test.YtmbbapeiikifgaaGreatDoorPgS2
set_option maxRecDepth 100000
set_option linter.all false
namespace Go.Proofs.YtmbbapeiikifgaaGreatDoor
open Go Go.Shelf

/-! laws.markNodeS -/
theorem S_laws_markNodeS_10f2 (k : Nat) (a1 : Int) (a2 : (List (Int × (Int × Int)))) (r : Int × (List (Int × (Int × Int)))) (hF : F_laws_markNodeS_10f2 k a1 a2 = some r) : Spec Tryz.prog 90 [sL 0, iI a1] [.row tyIII a2] (iI r.1) [.row tyIII r.2] := by
 refine Spec.of 1 34 Tryz.func90 rfl rfl (Nat.le_of_ble_eq_true rfl) rfl fun w0 S0 Z0 M0 R0 hE => ?_
 unfold F_laws_markNodeS_10f2 at hF
 refine .seq ?_
 refine .vW [] none [] trivial ?_ ?_
 refine .seq ?_
 refine .seq ?_
 refine .xW [] none ⟨[(5, iI 0), (4, iI 0), (0, sL 0), (1, iI a1)], [.row tyIII a2]⟩ [] trivial ?_ ?_
 refine WT.join (f := fun v15 => F_laws_markNodeS_10f2_J1 k v15) (r := r) (S := fun v15 => ⟨[(1, iI v15.1), (4, iI 0)], [.row tyIII v15.2]⟩) (fun v15 hF => ?_) (fun hJJ1 => ?_)
 ·
  unfold F_laws_markNodeS_10f2_J1 at hF
  refine .seq ?_
  refine .vW [] (some ([0], [4])) [] trivial ?_ ?_
  cases hF
  exact .xR hE [] [0] (by kernel_rfl)
  all_goals kernel_rfl
 ·
  refine .block ?_
  refine WT.xL (fun s9 => ⟨[(0, sL 0), (1, iI s9.1), (4, iI 0), (5, iI s9.2.1)], [.row tyIII s9.2.2]⟩) (l := fun n x => F_laws_markNodeS_10f2_L2 k (F_laws_markNodeS_10f2_J1 k) n x) (r := r) [.pick [0] [0, 1, 4, 5]] (a1, 0, a2) k hF (fun _ => rfl) (fun nL2 s9 ih hF => ?_) ?_
  dsimp only [F_laws_markNodeS_10f2_L2] at hF
  refine .seq ?_
  refine .seq ?_
  refine .xW [] (some ([0], [0, 1, 4, 5, 9])) ⟨[(0, sL 0), (1, iI s9.1), (4, iI 0), (5, iI s9.2.1), (9, bB (decide (s9.2.1 < (s9.2.2.length : Int))))], [.row tyIII s9.2.2]⟩ [] trivial ?_ ?_
  rcases condE hF with ⟨he, hF⟩ | ⟨he, hF⟩
  ·
   refine .xT he ?_ ?_
   refine .skip ?_
   refine .seq ?_
   refine .block ?_
   refine .seq ?_
   obtain ⟨x12, h19, hF⟩ := bindE hF
   refine .vW [.el tyIII x12] (some ([0], [0, 1, 4, 5])) [at? s9.2.2 s9.2.1 = some x12] ⟨h19, trivial⟩ ?_ ?_
   refine .seq ?_
   refine .vW [] (some ([0], [0, 1, 4, 5])) [] trivial ?_ ?_
   refine .seq ?_
   obtain ⟨x13, h20, hF⟩ := bindE hF
   refine .vW [.el tyIII x13] (some ([0], [0, 1, 4, 5])) [at? (s9.2.2.set ((s9.2.1).toNat) (s9.1, x12.2)) s9.2.1 = some x13] ⟨h20, trivial⟩ ?_ ?_
   refine .seq ?_
   refine .xW [] (some ([0], [0, 1, 4, 5])) ⟨[(0, sL 0), (1, iI (w64 ((w64 (s9.1 + 1)) + 1))), (4, iI 0), (5, iI s9.2.1)], [.row tyIII ((s9.2.2.set ((s9.2.1).toNat) (s9.1, x12.2)).set ((s9.2.1).toNat) (x13.1, (w64 (s9.1 + 1), x13.2.2)))]⟩ [] trivial ?_ ?_
   refine .seq ?_
   obtain ⟨x14, h21, hF⟩ := bindE hF
   refine .vW [.el tyIII x14] (some ([0], [0, 1, 4, 5])) [at? ((s9.2.2.set ((s9.2.1).toNat) (s9.1, x12.2)).set ((s9.2.1).toNat) (x13.1, (w64 (s9.1 + 1), x13.2.2))) s9.2.1 = some x14] ⟨h21, trivial⟩ ?_ ?_
   refine .vW [] (some ([0], [0, 1, 4, 5])) [] trivial ?_ ?_
   refine .inBlock ?_
   refine .vW [] (some ([0], [0, 1, 4, 5])) [] trivial ?_ ?_
   exact .xS [.pick [0] [0, 1, 4, 5]] (ih (w64 ((w64 ((w64 (s9.1 + 1)) + 1)) + 1), w64 (s9.2.1 + 1), ((s9.2.2.set ((s9.2.1).toNat) (s9.1, x12.2)).set ((s9.2.1).toNat) (x13.1, (w64 (s9.1 + 1), x13.2.2))).set ((s9.2.1).toNat) (x14.1, (x14.2.1, w64 ((w64 (s9.1 + 1)) + 1)))) hF) (by kernel_rfl)
   all_goals kernel_rfl
  ·
   refine .xF he ?_ ?_
   refine .exit rfl ?_
   exact .xS [.pick [0] [1, 4]] (hJJ1 (s9.1, s9.2.2) hF) (by kernel_rfl)
   all_goals kernel_rfl
  all_goals kernel_rfl
 all_goals kernel_rfl

/-! laws.markPool -/
theorem S_laws_markPool_fd6a (k : Nat) (a1 : Int) (a2 : (List (Int × (Int × Int)))) (r : Int × (List (Int × (Int × Int)))) (hF : F_laws_markPool_fd6a k a1 a2 = some r) : Spec Tryz.prog 55 [aG [.sl 0], iI a1] [.row tyIII a2] (iI r.1) [.row tyIII r.2] := by
 refine Spec.of 1 10 Tryz.func55 rfl rfl (Nat.le_of_ble_eq_true rfl) rfl fun w0 S0 Z0 M0 R0 hE => ?_
 unfold F_laws_markPool_fd6a at hF
 refine .seq ?_
 refine .xW [] (some ([0, 1], [1, 2, 4])) ⟨[(1, iI a1), (2, pT 1 0), (4, iI 0)], [.row tyIII a2, .box [.sl 0]]⟩ [] trivial ?_ ?_
 refine .seq ?_
 refine .uB [0, 1, 2] [3, 4] [] [] rfl trivial ?_ ?_
 obtain ⟨r1, h2, hF⟩ := bindE hF
 refine .uC false [.whole 0] (S_laws_markNodeS_10f2 k a1 a2 r1 h2) rfl ?_ ?_
 refine .vE [] (some ([0], [1, 4])) [] trivial ?_ ?_
 refine .seq ?_
 refine .vW [] (some ([0], [4])) [] trivial ?_ ?_
 cases hF
 exact .xR hE [] [0] (by kernel_rfl)
 all_goals kernel_rfl

/-! laws.markIntS -/
theorem S_laws_markIntS_f72a (k : Nat) (a1 : Int) (a2 : (List Int)) (r : Int × (List Int)) (hF : F_laws_markIntS_f72a k a1 a2 = some r) : Spec Tryz.prog 56 [sL 0, iI a1] [.row tyI a2] (iI r.1) [.row tyI r.2] := by
 refine Spec.of 1 19 Tryz.func56 rfl rfl (Nat.le_of_ble_eq_true rfl) rfl fun w0 S0 Z0 M0 R0 hE => ?_
 unfold F_laws_markIntS_f72a at hF
 refine .seq ?_
 refine .vW [] none [] trivial ?_ ?_
 refine .seq ?_
 refine .seq ?_
 refine .xW [] none ⟨[(5, iI 0), (4, iI 0), (0, sL 0), (1, iI a1)], [.row tyI a2]⟩ [] trivial ?_ ?_
 refine WT.join (f := fun v11 => F_laws_markIntS_f72a_J1 k v11) (r := r) (S := fun v11 => ⟨[(1, iI v11.1), (4, iI 0)], [.row tyI v11.2]⟩) (fun v11 hF => ?_) (fun hJJ1 => ?_)
 ·
  unfold F_laws_markIntS_f72a_J1 at hF
  refine .seq ?_
  refine .vW [] (some ([0], [4])) [] trivial ?_ ?_
  cases hF
  exact .xR hE [] [0] (by kernel_rfl)
  all_goals kernel_rfl
 ·
  refine .block ?_
  refine WT.xL (fun s7 => ⟨[(0, sL 0), (1, iI s7.1), (4, iI 0), (5, iI s7.2.1)], [.row tyI s7.2.2]⟩) (l := fun n x => F_laws_markIntS_f72a_L2 k (F_laws_markIntS_f72a_J1 k) n x) (r := r) [.pick [0] [0, 1, 4, 5]] (a1, 0, a2) k hF (fun _ => rfl) (fun nL2 s7 ih hF => ?_) ?_
  dsimp only [F_laws_markIntS_f72a_L2] at hF
  refine .seq ?_
  refine .seq ?_
  refine .xW [] (some ([0], [0, 1, 4, 5, 9])) ⟨[(0, sL 0), (1, iI s7.1), (4, iI 0), (5, iI s7.2.1), (9, bB (decide (s7.2.1 < (s7.2.2.length : Int))))], [.row tyI s7.2.2]⟩ [] trivial ?_ ?_
  rcases condE hF with ⟨he, hF⟩ | ⟨he, hF⟩
  ·
   refine .xT he ?_ ?_
   refine .skip ?_
   refine .seq ?_
   refine .block ?_
   refine .seq ?_
   obtain ⟨x10, h13, hF⟩ := bindE hF
   refine .vW [.el tyI x10] (some ([0], [0, 1, 4, 5])) [at? s7.2.2 s7.2.1 = some x10] ⟨h13, trivial⟩ ?_ ?_
   refine .vW [] (some ([0], [0, 1, 4, 5])) [] trivial ?_ ?_
   refine .inBlock ?_
   refine .vW [] (some ([0], [0, 1, 4, 5])) [] trivial ?_ ?_
   exact .xS [.pick [0] [0, 1, 4, 5]] (ih (w64 (s7.1 + 1), w64 (s7.2.1 + 1), s7.2.2.set ((s7.2.1).toNat) s7.1) hF) (by kernel_rfl)
   all_goals kernel_rfl
  ·
   refine .xF he ?_ ?_
   refine .exit rfl ?_
   exact .xS [.pick [0] [1, 4]] (hJJ1 (s7.1, s7.2.2) hF) (by kernel_rfl)
   all_goals kernel_rfl
  all_goals kernel_rfl
 all_goals kernel_rfl

/-! laws.markStream -/
theorem S_laws_markStream_3c3c (k : Nat) (a1 : Int) (a2 : Int) (a3 : Int) (a4 : Bool) (a5 : Int) (a6 : Int) (a7 : Int) (a8 : Bool) (a9 : Int) (a10 : (List (Int × (Int × Int)))) (a11 : (List Int)) (a12 : (List Int)) (a13 : (List Int)) (r : Int × (List (Int × (Int × Int))) × (List Int) × (List Int) × (List Int)) (hF : F_laws_markStream_3c3c k a1 a2 a3 a4 a5 a6 a7 a8 a9 a10 a11 a12 a13 = some r) : Spec Tryz.prog 21 [aG [.sl 0, .sl 1, ci a1, ci a2, ci a3, .bool a4, ci a5, ci a6, ci a7, .bool a8, .sl 2, .sl 3], iI a9] [.row tyIII a10, .row tyI a11, .row tyI a12, .row tyI a13] (iI r.1) [.row tyIII r.2.1, .row tyI r.2.2.1, .row tyI r.2.2.2.1, .row tyI r.2.2.2.2] := by
 refine Spec.of 4 22 Tryz.func21 rfl rfl (Nat.le_of_ble_eq_true rfl) rfl fun w0 S0 Z0 M0 R0 hE => ?_
 unfold F_laws_markStream_3c3c at hF
 refine .seq ?_
 refine .xW [] (some ([0, 1, 2, 3, 4], [1, 2, 4])) ⟨[(1, iI a9), (2, pT 4 0), (4, iI 0)], [.row tyIII a10, .row tyI a11, .row tyI a12, .row tyI a13, .box [.sl 0, .sl 1, ci a1, ci a2, ci a3, .bool a4, ci a5, ci a6, ci a7, .bool a8, .sl 2, .sl 3]]⟩ [] trivial ?_ ?_
 refine .seq ?_
 refine .uB [0, 1, 2] [3, 4] [] [] rfl trivial ?_ ?_
 obtain ⟨r1, h8, hF⟩ := bindE hF
 refine .uC false [.whole 0] (S_laws_markPool_fd6a k a9 a10 r1 h8) rfl ?_ ?_
 refine .xE [] (some ([0, 1, 2, 3, 4], [1, 2, 4])) ⟨[(1, iI r1.1), (2, pT 4 0), (4, iI 0)], [.row tyIII r1.2, .row tyI a11, .row tyI a12, .row tyI a13, .box [.sl 0, .sl 1, ci a1, ci a2, ci a3, .bool a4, ci a5, ci a6, ci a7, .bool a8, .sl 2, .sl 3]]⟩ [] trivial ?_ ?_
 refine .seq ?_
 refine .uB [0, 1, 2] [3, 4] [] [] rfl trivial ?_ ?_
 obtain ⟨r2, h7, hF⟩ := bindE hF
 refine .uC false [.whole 1] (S_laws_markIntS_f72a k r1.1 a11 r2 h7) rfl ?_ ?_
 refine .xE [] (some ([0, 1, 2, 3, 4], [1, 2, 4])) ⟨[(1, iI r2.1), (2, pT 4 0), (4, iI 0)], [.row tyIII r1.2, .row tyI r2.2, .row tyI a12, .row tyI a13, .box [.sl 0, .sl 1, ci a1, ci a2, ci a3, .bool a4, ci a5, ci a6, ci a7, .bool a8, .sl 2, .sl 3]]⟩ [] trivial ?_ ?_
 refine .seq ?_
 refine .uB [0, 1, 2] [3, 4] [] [] rfl trivial ?_ ?_
 obtain ⟨r3, h6, hF⟩ := bindE hF
 refine .uC false [.whole 2] (S_laws_markIntS_f72a k r2.1 a12 r3 h6) rfl ?_ ?_
 refine .xE [] (some ([0, 1, 2, 3, 4], [1, 2, 4])) ⟨[(1, iI r3.1), (2, pT 4 0), (4, iI 0)], [.row tyIII r1.2, .row tyI r2.2, .row tyI r3.2, .row tyI a13, .box [.sl 0, .sl 1, ci a1, ci a2, ci a3, .bool a4, ci a5, ci a6, ci a7, .bool a8, .sl 2, .sl 3]]⟩ [] trivial ?_ ?_
 refine .seq ?_
 refine .uB [0, 1, 2] [3, 4] [] [] rfl trivial ?_ ?_
 obtain ⟨r4, h5, hF⟩ := bindE hF
 refine .uC false [.whole 3] (S_laws_markIntS_f72a k r3.1 a13 r4 h5) rfl ?_ ?_
 refine .vE [] (some ([0, 1, 2, 3], [1, 4])) [] trivial ?_ ?_
 refine .seq ?_
 refine .vW [] (some ([0, 1, 2, 3], [4])) [] trivial ?_ ?_
 cases hF
 exact .xR hE [] [0, 1, 2, 3] (by kernel_rfl)
 all_goals kernel_rfl

/-! laws.heldNodeS -/
theorem S_laws_heldNodeS (k : Nat) (a1 : (List (Int × (Int × Int)))) (a2 : Int) (r : Int) (hF : F_laws_heldNodeS k a1 a2 = some r) : Spec Tryz.prog 91 [vV none tyIII a1, iI a2] [] (iI r) [] := by
 refine Spec.of 0 40 Tryz.func91 rfl rfl (Nat.le_of_ble_eq_true rfl) rfl fun w0 S0 Z0 M0 R0 hE => ?_
 unfold F_laws_heldNodeS at hF
 refine .seq ?_
 refine .vW [] none [] trivial ?_ ?_
 refine .seq ?_
 refine .seq ?_
 refine .xW [] none ⟨[(5, iI 0), (4, iI 0), (0, vV none tyIII a1), (1, iI a2)], []⟩ [] trivial ?_ ?_
 refine WT.join (f := fun v21 => F_laws_heldNodeS_J1 k v21) (r := r) (S := fun v21 => ⟨[(1, iI v21), (4, iI 0)], []⟩) (fun v21 hF => ?_) (fun hJJ1 => ?_)
 ·
  unfold F_laws_heldNodeS_J1 at hF
  refine .seq ?_
  refine .vW [] (some ([], [4])) [] trivial ?_ ?_
  cases hF
  exact .xR hE [] [] (by kernel_rfl)
  all_goals kernel_rfl
 ·
  refine .block ?_
  refine WT.xL (fun s12 => ⟨[(0, vV none tyIII a1), (1, iI s12.1), (4, iI 0), (5, iI s12.2)], []⟩) (l := fun n x => F_laws_heldNodeS_L2 k a1 (F_laws_heldNodeS_J1 k) n x) (r := r) [.pick [] [0, 1, 4, 5]] (a2, 0) k hF (fun _ => rfl) (fun nL2 s12 ih hF => ?_) ?_
  dsimp only [F_laws_heldNodeS_L2] at hF
  refine .seq ?_
  refine .seq ?_
  refine .xW [] (some ([], [0, 1, 4, 5, 9])) ⟨[(0, vV none tyIII a1), (1, iI s12.1), (4, iI 0), (5, iI s12.2), (9, bB (decide (s12.2 < (a1.length : Int))))], []⟩ [] trivial ?_ ?_
  rcases condE hF with ⟨he, hF⟩ | ⟨he, hF⟩
  ·
   refine .xT he ?_ ?_
   refine .skip ?_
   refine .seq ?_
   refine .block ?_
   refine .seq ?_
   refine .seq ?_
   obtain ⟨x15, h25, hF⟩ := bindE hF
   refine .xW [.el tyIII x15] (some ([], [0, 1, 4, 5, 18])) ⟨[(0, vV none tyIII a1), (1, iI s12.1), (4, iI 0), (5, iI s12.2), (18, bB (x15.1 != s12.1))], []⟩ [at? a1 s12.2 = some x15] ⟨h25, trivial⟩ ?_ ?_
   rcases condE hF with ⟨he, hF⟩ | ⟨he, hF⟩
   ·
    refine .xT he ?_ ?_
    refine .seq ?_
    refine .vW [] (some ([], [0, 1, 4, 5])) [] trivial ?_ ?_
    cases hF
    exact .xR hE [] [] (by kernel_rfl)
    all_goals kernel_rfl
   ·
    refine .xF he ?_ ?_
    refine .skip ?_
    refine .seq ?_
    refine .vW [] (some ([], [0, 1, 4, 5])) [] trivial ?_ ?_
    refine .seq ?_
    refine .seq ?_
    obtain ⟨x17, h26, hF⟩ := bindE hF
    refine .xW [.el tyIII x17] (some ([], [0, 1, 4, 5, 27])) ⟨[(0, vV none tyIII a1), (1, iI (w64 (s12.1 + 1))), (4, iI 0), (5, iI s12.2), (27, bB (x17.2.1 != (w64 (s12.1 + 1))))], []⟩ [at? a1 s12.2 = some x17] ⟨h26, trivial⟩ ?_ ?_
    rcases condE hF with ⟨he, hF⟩ | ⟨he, hF⟩
    ·
     refine .xT he ?_ ?_
     refine .seq ?_
     refine .vW [] (some ([], [0, 1, 4, 5])) [] trivial ?_ ?_
     cases hF
     exact .xR hE [] [] (by kernel_rfl)
     all_goals kernel_rfl
    ·
     refine .xF he ?_ ?_
     refine .skip ?_
     refine .seq ?_
     refine .vW [] (some ([], [0, 1, 4, 5])) [] trivial ?_ ?_
     refine .seq ?_
     refine .seq ?_
     obtain ⟨x19, h27, hF⟩ := bindE hF
     refine .xW [.el tyIII x19] (some ([], [0, 1, 4, 5, 36])) ⟨[(0, vV none tyIII a1), (1, iI (w64 ((w64 (s12.1 + 1)) + 1))), (4, iI 0), (5, iI s12.2), (36, bB (x19.2.2 != (w64 ((w64 (s12.1 + 1)) + 1))))], []⟩ [at? a1 s12.2 = some x19] ⟨h27, trivial⟩ ?_ ?_
     rcases condE hF with ⟨he, hF⟩ | ⟨he, hF⟩
     ·
      refine .xT he ?_ ?_
      refine .seq ?_
      refine .vW [] (some ([], [0, 1, 4, 5])) [] trivial ?_ ?_
      cases hF
      exact .xR hE [] [] (by kernel_rfl)
      all_goals kernel_rfl
     ·
      refine .xF he ?_ ?_
      refine .skip ?_
      refine .vW [] (some ([], [0, 1, 4, 5])) [] trivial ?_ ?_
      refine .inBlock ?_
      refine .vW [] (some ([], [0, 1, 4, 5])) [] trivial ?_ ?_
      exact .xS [.pick [] [0, 1, 4, 5]] (ih (w64 ((w64 ((w64 (s12.1 + 1)) + 1)) + 1), w64 (s12.2 + 1)) hF) (by kernel_rfl)
      all_goals kernel_rfl
     all_goals kernel_rfl
    all_goals kernel_rfl
   all_goals kernel_rfl
  ·
   refine .xF he ?_ ?_
   refine .exit rfl ?_
   exact .xS [.pick [] [1, 4]] (hJJ1 (s12.1) hF) (by kernel_rfl)
   all_goals kernel_rfl
  all_goals kernel_rfl
 all_goals kernel_rfl

/-! laws.heldPool -/
theorem S_laws_heldPool (k : Nat) (a1 : (List (Int × (Int × Int)))) (a2 : Int) (r : Int) (hF : F_laws_heldPool k a1 a2 = some r) : Spec Tryz.prog 57 [aG [.vw none tyIII a1], iI a2] [] (iI r) [] := by
 refine Spec.of 0 12 Tryz.func57 rfl rfl (Nat.le_of_ble_eq_true rfl) rfl fun w0 S0 Z0 M0 R0 hE => ?_
 unfold F_laws_heldPool at hF
 refine .seq ?_
 refine .xW [] (some ([0], [1, 2, 4])) ⟨[(1, iI a2), (2, pT 0 0), (4, iI 0)], [.box [.vw none tyIII a1]]⟩ [] trivial ?_ ?_
 refine .seq ?_
 refine .uB [0, 1, 2] [3, 4] [] [] rfl trivial ?_ ?_
 obtain ⟨r1, h3, hF⟩ := bindE hF
 refine .uC false [] (S_laws_heldNodeS k a1 a2 r1 h3) rfl ?_ ?_
 refine .vE [] (some ([], [1, 4])) [] trivial ?_ ?_
 refine .seq ?_
 refine .seq ?_
 refine .xW [] (some ([], [1, 4, 10])) ⟨[(1, iI r1), (4, iI 0), (10, bB (decide (r1 < 0)))], []⟩ [] trivial ?_ ?_
 rcases condE hF with ⟨he, hF⟩ | ⟨he, hF⟩
 ·
  refine .xT he ?_ ?_
  refine .seq ?_
  refine .vW [] (some ([], [1, 4])) [] trivial ?_ ?_
  cases hF
  exact .xR hE [] [] (by kernel_rfl)
  all_goals kernel_rfl
 ·
  refine .xF he ?_ ?_
  refine .skip ?_
  refine .seq ?_
  refine .vW [] (some ([], [4])) [] trivial ?_ ?_
  cases hF
  exact .xR hE [] [] (by kernel_rfl)
  all_goals kernel_rfl
 all_goals kernel_rfl

/-! laws.heldIntS -/
theorem S_laws_heldIntS (k : Nat) (a1 : (List Int)) (a2 : Int) (r : Int) (hF : F_laws_heldIntS k a1 a2 = some r) : Spec Tryz.prog 58 [vV none tyI a1, iI a2] [] (iI r) [] := by
 refine Spec.of 0 21 Tryz.func58 rfl rfl (Nat.le_of_ble_eq_true rfl) rfl fun w0 S0 Z0 M0 R0 hE => ?_
 unfold F_laws_heldIntS at hF
 refine .seq ?_
 refine .vW [] none [] trivial ?_ ?_
 refine .seq ?_
 refine .seq ?_
 refine .xW [] none ⟨[(5, iI 0), (4, iI 0), (0, vV none tyI a1), (1, iI a2)], []⟩ [] trivial ?_ ?_
 refine WT.join (f := fun v13 => F_laws_heldIntS_J1 k v13) (r := r) (S := fun v13 => ⟨[(1, iI v13), (4, iI 0)], []⟩) (fun v13 hF => ?_) (fun hJJ1 => ?_)
 ·
  unfold F_laws_heldIntS_J1 at hF
  refine .seq ?_
  refine .vW [] (some ([], [4])) [] trivial ?_ ?_
  cases hF
  exact .xR hE [] [] (by kernel_rfl)
  all_goals kernel_rfl
 ·
  refine .block ?_
  refine WT.xL (fun s8 => ⟨[(0, vV none tyI a1), (1, iI s8.1), (4, iI 0), (5, iI s8.2)], []⟩) (l := fun n x => F_laws_heldIntS_L2 k a1 (F_laws_heldIntS_J1 k) n x) (r := r) [.pick [] [0, 1, 4, 5]] (a2, 0) k hF (fun _ => rfl) (fun nL2 s8 ih hF => ?_) ?_
  dsimp only [F_laws_heldIntS_L2] at hF
  refine .seq ?_
  refine .seq ?_
  refine .xW [] (some ([], [0, 1, 4, 5, 9])) ⟨[(0, vV none tyI a1), (1, iI s8.1), (4, iI 0), (5, iI s8.2), (9, bB (decide (s8.2 < (a1.length : Int))))], []⟩ [] trivial ?_ ?_
  rcases condE hF with ⟨he, hF⟩ | ⟨he, hF⟩
  ·
   refine .xT he ?_ ?_
   refine .skip ?_
   refine .seq ?_
   refine .block ?_
   refine .seq ?_
   refine .seq ?_
   obtain ⟨x11, h15, hF⟩ := bindE hF
   refine .xW [.el tyI x11] (some ([], [0, 1, 4, 5, 17])) ⟨[(0, vV none tyI a1), (1, iI s8.1), (4, iI 0), (5, iI s8.2), (17, bB (x11 != s8.1))], []⟩ [at? a1 s8.2 = some x11] ⟨h15, trivial⟩ ?_ ?_
   rcases condE hF with ⟨he, hF⟩ | ⟨he, hF⟩
   ·
    refine .xT he ?_ ?_
    refine .seq ?_
    refine .vW [] (some ([], [0, 1, 4, 5])) [] trivial ?_ ?_
    cases hF
    exact .xR hE [] [] (by kernel_rfl)
    all_goals kernel_rfl
   ·
    refine .xF he ?_ ?_
    refine .skip ?_
    refine .vW [] (some ([], [0, 1, 4, 5])) [] trivial ?_ ?_
    refine .inBlock ?_
    refine .vW [] (some ([], [0, 1, 4, 5])) [] trivial ?_ ?_
    exact .xS [.pick [] [0, 1, 4, 5]] (ih (w64 (s8.1 + 1), w64 (s8.2 + 1)) hF) (by kernel_rfl)
    all_goals kernel_rfl
   all_goals kernel_rfl
  ·
   refine .xF he ?_ ?_
   refine .exit rfl ?_
   exact .xS [.pick [] [1, 4]] (hJJ1 (s8.1) hF) (by kernel_rfl)
   all_goals kernel_rfl
  all_goals kernel_rfl
 all_goals kernel_rfl

/-! laws.heldStream -/
theorem S_laws_heldStream (k : Nat) (a1 : (List (Int × (Int × Int)))) (a2 : (List Int)) (a3 : Int) (a4 : Int) (a5 : Int) (a6 : Bool) (a7 : Int) (a8 : Int) (a9 : Int) (a10 : Bool) (a11 : (List Int)) (a12 : (List Int)) (a13 : Int) (r : Int) (hF : F_laws_heldStream k a1 a2 a3 a4 a5 a6 a7 a8 a9 a10 a11 a12 a13 = some r) : Spec Tryz.prog 22 [aG [.vw none tyIII a1, .vw none tyI a2, ci a3, ci a4, ci a5, .bool a6, ci a7, ci a8, ci a9, .bool a10, .vw none tyI a11, .vw none tyI a12], iI a13] [] (iI r) [] := by
 refine Spec.of 0 30 Tryz.func22 rfl rfl (Nat.le_of_ble_eq_true rfl) rfl fun w0 S0 Z0 M0 R0 hE => ?_
 unfold F_laws_heldStream at hF
 refine .seq ?_
 refine .xW [] (some ([0], [1, 2, 4])) ⟨[(1, iI a13), (2, pT 0 0), (4, iI 0)], [.box [.vw none tyIII a1, .vw none tyI a2, ci a3, ci a4, ci a5, .bool a6, ci a7, ci a8, ci a9, .bool a10, .vw none tyI a11, .vw none tyI a12]]⟩ [] trivial ?_ ?_
 refine .seq ?_
 refine .uB [0, 1, 2] [3, 4] [] [] rfl trivial ?_ ?_
 obtain ⟨r1, h12, hF⟩ := bindE hF
 refine .uC false [] (S_laws_heldPool k a1 a13 r1 h12) rfl ?_ ?_
 refine .vE [] (some ([0], [1, 2, 4])) [] trivial ?_ ?_
 refine .seq ?_
 refine .seq ?_
 refine .xW [] (some ([0], [1, 2, 4, 10])) ⟨[(1, iI r1), (2, pT 0 0), (4, iI 0), (10, bB (decide (r1 < 0)))], [.box [.vw none tyIII a1, .vw none tyI a2, ci a3, ci a4, ci a5, .bool a6, ci a7, ci a8, ci a9, .bool a10, .vw none tyI a11, .vw none tyI a12]]⟩ [] trivial ?_ ?_
 rcases condE hF with ⟨he, hF⟩ | ⟨he, hF⟩
 ·
  refine .xT he ?_ ?_
  refine .seq ?_
  refine .vW [] (some ([0], [1, 2, 4])) [] trivial ?_ ?_
  cases hF
  exact .xR hE [] [] (by kernel_rfl)
  all_goals kernel_rfl
 ·
  refine .xF he ?_ ?_
  refine .skip ?_
  refine .seq ?_
  refine .uB [0, 1, 2] [3, 4] [] [] rfl trivial ?_ ?_
  obtain ⟨r3, h11, hF⟩ := bindE hF
  refine .uC false [] (S_laws_heldIntS k a2 r1 r3 h11) rfl ?_ ?_
  refine .vE [] (some ([0], [1, 2, 4])) [] trivial ?_ ?_
  refine .seq ?_
  refine .seq ?_
  refine .xW [] (some ([0], [1, 2, 4, 16])) ⟨[(1, iI r3), (2, pT 0 0), (4, iI 0), (16, bB (decide (r3 < 0)))], [.box [.vw none tyIII a1, .vw none tyI a2, ci a3, ci a4, ci a5, .bool a6, ci a7, ci a8, ci a9, .bool a10, .vw none tyI a11, .vw none tyI a12]]⟩ [] trivial ?_ ?_
  rcases condE hF with ⟨he, hF⟩ | ⟨he, hF⟩
  ·
   refine .xT he ?_ ?_
   refine .seq ?_
   refine .vW [] (some ([0], [1, 2, 4])) [] trivial ?_ ?_
   cases hF
   exact .xR hE [] [] (by kernel_rfl)
   all_goals kernel_rfl
  ·
   refine .xF he ?_ ?_
   refine .skip ?_
   refine .seq ?_
   refine .uB [0, 1, 2] [3, 4] [] [] rfl trivial ?_ ?_
   obtain ⟨r5, h10, hF⟩ := bindE hF
   refine .uC false [] (S_laws_heldIntS k a11 r3 r5 h10) rfl ?_ ?_
   refine .vE [] (some ([0], [1, 2, 4])) [] trivial ?_ ?_
   refine .seq ?_
   refine .seq ?_
   refine .xW [] (some ([0], [1, 2, 4, 22])) ⟨[(1, iI r5), (2, pT 0 0), (4, iI 0), (22, bB (decide (r5 < 0)))], [.box [.vw none tyIII a1, .vw none tyI a2, ci a3, ci a4, ci a5, .bool a6, ci a7, ci a8, ci a9, .bool a10, .vw none tyI a11, .vw none tyI a12]]⟩ [] trivial ?_ ?_
   rcases condE hF with ⟨he, hF⟩ | ⟨he, hF⟩
   ·
    refine .xT he ?_ ?_
    refine .seq ?_
    refine .vW [] (some ([0], [1, 2, 4])) [] trivial ?_ ?_
    cases hF
    exact .xR hE [] [] (by kernel_rfl)
    all_goals kernel_rfl
   ·
    refine .xF he ?_ ?_
    refine .skip ?_
    refine .seq ?_
    refine .uB [0, 1, 2] [3, 4] [] [] rfl trivial ?_ ?_
    obtain ⟨r7, h9, hF⟩ := bindE hF
    refine .uC false [] (S_laws_heldIntS k a12 r5 r7 h9) rfl ?_ ?_
    refine .vE [] (some ([], [1, 4])) [] trivial ?_ ?_
    refine .seq ?_
    refine .seq ?_
    refine .xW [] (some ([], [1, 4, 28])) ⟨[(1, iI r7), (4, iI 0), (28, bB (decide (r7 < 0)))], []⟩ [] trivial ?_ ?_
    rcases condE hF with ⟨he, hF⟩ | ⟨he, hF⟩
    ·
     refine .xT he ?_ ?_
     refine .seq ?_
     refine .vW [] (some ([], [1, 4])) [] trivial ?_ ?_
     cases hF
     exact .xR hE [] [] (by kernel_rfl)
     all_goals kernel_rfl
    ·
     refine .xF he ?_ ?_
     refine .skip ?_
     refine .seq ?_
     refine .vW [] (some ([], [4])) [] trivial ?_ ?_
     cases hF
     exact .xR hE [] [] (by kernel_rfl)
     all_goals kernel_rfl
    all_goals kernel_rfl
   all_goals kernel_rfl
  all_goals kernel_rfl
 all_goals kernel_rfl

/-! laws.FnExactStreamDo -/
theorem S_laws_FnExactStreamDo (k : Nat) (a1 : (List (Int × (Int × Int)))) (a2 : (List Int)) (a3 : Int) (a4 : Int) (a5 : Int) (a6 : Bool) (a7 : Int) (a8 : Int) (a9 : Int) (a10 : Bool) (a11 : (List Int)) (a12 : (List Int)) (a13 : Int) (a14 : Int) (a15 : ByteArray) (r : Bool) (hF : F_laws_FnExactStreamDo k a1 a2 a3 a4 a5 a6 a7 a8 a9 a10 a11 a12 a13 a14 a15 = some r) : Spec Tryz.prog 4 [aG [.vw none tyIII a1, .vw none tyI a2, ci a3, ci a4, ci a5, .bool a6, ci a7, ci a8, ci a9, .bool a10, .vw none tyI a11, .vw none tyI a12], aG [ci a13, ci a14, .str a15]] [] (bB r) [] := by
 refine Spec.of 0 109 Tryz.func4 rfl rfl (Nat.le_of_ble_eq_true rfl) rfl fun w0 S0 Z0 M0 R0 hE => ?_
 unfold F_laws_FnExactStreamDo at hF
 refine .seq ?_
 refine .vW [] (some ([0, 1], [2, 3, 4])) [] trivial ?_ ?_
 refine .seq ?_
 refine .xW [] none ⟨[(5, iI 1048576), (2, pT 0 0), (3, pT 1 0), (4, bB false)], [.box [.vw none tyIII a1, .vw none tyI a2, ci a3, ci a4, ci a5, .bool a6, ci a7, ci a8, ci a9, .bool a10, .vw none tyI a11, .vw none tyI a12], .box [ci a13, ci a14, .str a15]]⟩ [] trivial ?_ ?_
 refine .seq ?_
 refine .uB [0, 1] [2, 3] [] [] rfl trivial ?_ ?_
 obtain ⟨r1, h82, hF⟩ := bindE hF
 refine .uC false [] (S_laws_szStream k a1 a2 a3 a4 a5 a6 a7 a8 a9 a10 a11 a12 1048576 r1 h82) rfl ?_ ?_
 refine .vE [] (some ([0, 1], [2, 3, 4, 5])) [] trivial ?_ ?_
 refine .seq ?_
 refine .seq ?_
 refine .xW [] (some ([0, 1], [2, 3, 4, 5, 20])) ⟨[(2, pT 0 0), (3, pT 1 0), (4, bB false), (5, iI r1), (20, bB (decide (r1 < 0)))], [.box [.vw none tyIII a1, .vw none tyI a2, ci a3, ci a4, ci a5, .bool a6, ci a7, ci a8, ci a9, .bool a10, .vw none tyI a11, .vw none tyI a12], .box [ci a13, ci a14, .str a15]]⟩ [] trivial ?_ ?_
 rcases condE hF with ⟨he, hF⟩ | ⟨he, hF⟩
 ·
  refine .xT he ?_ ?_
  refine .seq ?_
  refine .vW [] (some ([0, 1], [2, 3, 4, 5])) [] trivial ?_ ?_
  cases hF
  exact .xR hE [] [] (by kernel_rfl)
  all_goals kernel_rfl
 ·
  refine .xF he ?_ ?_
  refine .skip ?_
  refine .seq ?_
  refine .uB [0, 1] [2, 3] [] [] rfl trivial ?_ ?_
  obtain ⟨r3, h81, hF⟩ := bindE hF
  refine .uC false [] (S_laws_szAction k a13 a14 a15 r1 r3 h81) rfl ?_ ?_
  refine .vE [] (some ([0, 1], [2, 3, 4, 5])) [] trivial ?_ ?_
  refine .seq ?_
  refine .seq ?_
  refine .xW [] (some ([0, 1], [2, 3, 4, 25])) ⟨[(2, pT 0 0), (3, pT 1 0), (4, bB false), (25, bB (decide (r3 < 0)))], [.box [.vw none tyIII a1, .vw none tyI a2, ci a3, ci a4, ci a5, .bool a6, ci a7, ci a8, ci a9, .bool a10, .vw none tyI a11, .vw none tyI a12], .box [ci a13, ci a14, .str a15]]⟩ [] trivial ?_ ?_
  rcases condE hF with ⟨he, hF⟩ | ⟨he, hF⟩
  ·
   refine .xT he ?_ ?_
   refine .seq ?_
   refine .vW [] (some ([0, 1], [2, 3, 4])) [] trivial ?_ ?_
   cases hF
   exact .xR hE [] [] (by kernel_rfl)
   all_goals kernel_rfl
  ·
   refine .xF he ?_ ?_
   refine .skip ?_
   refine .seq ?_
   obtain ⟨r6, h9, hF⟩ := bindE hF
   obtain ⟨r7, h10, hF⟩ := bindE hF
   obtain ⟨r8, h11, hF⟩ := bindE hF
   refine WA.xs [.cells 0 0 12, .cells 1 0 3] [] ?_ ?_
   refine WA.lem (pr' := [.cells 0 0 12, .cells 1 0 3]) (fuel' := 0) (listed' := #[true, true, true, true, true, true, true, true, true, true, true]) (st' := ⟨[(2, pT 0 0), (3, pT 1 0), (4, bB false), (6, pT 2 0), (7, bB r8.2.2.2.2.2.2.2.2.1)], [.box [.vw none tyIII a1, .vw none tyI a2, ci a3, ci a4, ci a5, .bool a6, ci a7, ci a8, ci a9, .bool a10, .vw none tyI a11, .vw none tyI a12], .box [ci a13, ci a14, .str a15], .box [.sl 3, .sl 4, ci r8.1, ci r8.2.1, ci r8.2.2.1, .bool r8.2.2.2.1, ci r8.2.2.2.2.1, ci r8.2.2.2.2.2.1, ci r8.2.2.2.2.2.2.1, .bool r8.2.2.2.2.2.2.2.1, .sl 5, .sl 6], .row tyIII r8.2.2.2.2.2.2.2.2.2.1, .row tyI r8.2.2.2.2.2.2.2.2.2.2.1, .row tyI r8.2.2.2.2.2.2.2.2.2.2.2.1, .row tyI r8.2.2.2.2.2.2.2.2.2.2.2.2]⟩) ?_ (fun A79 => ?_)
   ·
    refine WA.xD none ⟨[(2, pT 0 0), (3, pT 1 0), (4, bB false), (6, pT 2 0), (7, bB r8.2.2.2.2.2.2.2.2.1)], [.box [.vw none tyIII a1, .vw none tyI a2, ci a3, ci a4, ci a5, .bool a6, ci a7, ci a8, ci a9, .bool a10, .vw none tyI a11, .vw none tyI a12], .box [ci a13, ci a14, .str a15], .box [.sl 3, .sl 4, ci r8.1, ci r8.2.1, ci r8.2.2.1, .bool r8.2.2.2.1, ci r8.2.2.2.2.1, ci r8.2.2.2.2.2.1, ci r8.2.2.2.2.2.2.1, .bool r8.2.2.2.2.2.2.2.1, .sl 5, .sl 6], .row tyIII r8.2.2.2.2.2.2.2.2.2.1, .row tyI r8.2.2.2.2.2.2.2.2.2.2.1, .row tyI r8.2.2.2.2.2.2.2.2.2.2.2.1, .row tyI r8.2.2.2.2.2.2.2.2.2.2.2.2]⟩ ?_ ?_
    refine .seq ?_
    refine .uB [0] [1, 2, 3] [] [] rfl trivial ?_ ?_
    obtain ⟨r12, h73, hF⟩ := bindE hF
    refine .uC false [] (S_laws_toStream k a1 a2 a3 a4 a5 a6 a7 a8 a9 a10 a11 a12 r12 h73) rfl ?_ ?_
    refine .vE [] (some ([0, 1, 2, 11, 3, 4, 5, 6, 7, 8, 9, 10], [2, 3, 4, 6, 7, 8])) [] trivial ?_ ?_
    refine .seq ?_
    obtain ⟨r14, h16, hF⟩ := bindE hF
    obtain ⟨r15, h17, hF⟩ := bindE hF
    refine WA.xs [.cells 1 0 3, .cells 3 0 12] [] ?_ ?_
    refine WA.lem (pr' := [.cells 1 0 3, .cells 3 0 12]) (fuel' := 0) (listed' := #[true, true, true, true, true, true, true, true, true, true]) (st' := ⟨[(2, pT 0 0), (3, pT 1 0), (4, bB false), (6, pT 2 0), (7, bB r8.2.2.2.2.2.2.2.2.1), (8, pT 3 0), (9, pT 12 0), (10, bB r15.2.2.2.2.2.2.2.2.1)], [.box [.vw none tyIII a1, .vw none tyI a2, ci a3, ci a4, ci a5, .bool a6, ci a7, ci a8, ci a9, .bool a10, .vw none tyI a11, .vw none tyI a12], .box [ci a13, ci a14, .str a15], .box [.sl 4, .sl 5, ci r8.1, ci r8.2.1, ci r8.2.2.1, .bool r8.2.2.2.1, ci r8.2.2.2.2.1, ci r8.2.2.2.2.2.1, ci r8.2.2.2.2.2.2.1, .bool r8.2.2.2.2.2.2.2.1, .sl 6, .sl 7], .box [.sl 8, .sl 9, ci a3, ci a4, ci a5, .bool a6, ci a7, ci a8, ci a9, .bool a10, .sl 10, .sl 11], .row tyIII r8.2.2.2.2.2.2.2.2.2.1, .row tyI r8.2.2.2.2.2.2.2.2.2.2.1, .row tyI r8.2.2.2.2.2.2.2.2.2.2.2.1, .row tyI r8.2.2.2.2.2.2.2.2.2.2.2.2, .row tyIII r12.1, .row tyI r12.2.1, .row tyI r12.2.2.1, .row tyI r12.2.2.2, .box [.sl 13, .sl 14, ci r15.1, ci r15.2.1, ci r15.2.2.1, .bool r15.2.2.2.1, ci r15.2.2.2.2.1, ci r15.2.2.2.2.2.1, ci r15.2.2.2.2.2.2.1, .bool r15.2.2.2.2.2.2.2.1, .sl 15, .sl 16], .row tyIII r15.2.2.2.2.2.2.2.2.2.1, .row tyI r15.2.2.2.2.2.2.2.2.2.2.1, .row tyI r15.2.2.2.2.2.2.2.2.2.2.2.1, .row tyI r15.2.2.2.2.2.2.2.2.2.2.2.2]⟩) ?_ (fun A71 => ?_)
    ·
     refine WA.xD (some ([0, 1, 2, 3, 12, 4, 5, 6, 7, 8, 9, 10, 11, 13, 14, 15, 16], [2, 3, 4, 6, 7, 8, 9, 10])) ⟨[(2, pT 0 0), (3, pT 1 0), (4, bB false), (6, pT 2 0), (7, bB r8.2.2.2.2.2.2.2.2.1), (8, pT 3 0), (9, pT 4 0), (10, bB r15.2.2.2.2.2.2.2.2.1)], [.box [.vw none tyIII a1, .vw none tyI a2, ci a3, ci a4, ci a5, .bool a6, ci a7, ci a8, ci a9, .bool a10, .vw none tyI a11, .vw none tyI a12], .box [ci a13, ci a14, .str a15], .box [.sl 5, .sl 6, ci r8.1, ci r8.2.1, ci r8.2.2.1, .bool r8.2.2.2.1, ci r8.2.2.2.2.1, ci r8.2.2.2.2.2.1, ci r8.2.2.2.2.2.2.1, .bool r8.2.2.2.2.2.2.2.1, .sl 7, .sl 8], .box [.sl 9, .sl 10, ci a3, ci a4, ci a5, .bool a6, ci a7, ci a8, ci a9, .bool a10, .sl 11, .sl 12], .box [.sl 13, .sl 14, ci r15.1, ci r15.2.1, ci r15.2.2.1, .bool r15.2.2.2.1, ci r15.2.2.2.2.1, ci r15.2.2.2.2.2.1, ci r15.2.2.2.2.2.2.1, .bool r15.2.2.2.2.2.2.2.1, .sl 15, .sl 16], .row tyIII r8.2.2.2.2.2.2.2.2.2.1, .row tyI r8.2.2.2.2.2.2.2.2.2.2.1, .row tyI r8.2.2.2.2.2.2.2.2.2.2.2.1, .row tyI r8.2.2.2.2.2.2.2.2.2.2.2.2, .row tyIII r12.1, .row tyI r12.2.1, .row tyI r12.2.2.1, .row tyI r12.2.2.2, .row tyIII r15.2.2.2.2.2.2.2.2.2.1, .row tyI r15.2.2.2.2.2.2.2.2.2.2.1, .row tyI r15.2.2.2.2.2.2.2.2.2.2.2.1, .row tyI r15.2.2.2.2.2.2.2.2.2.2.2.2]⟩ ?_ ?_
     refine .seq ?_
     refine .seq ?_
     refine WT.join (f := fun v20 => F_laws_FnExactStreamDo_J18 k a1 a2 a3 a4 a5 a6 a7 a8 r8 a9 a10 a11 a12 r12 a13 a14 a15 r15 v20) (r := r) (S := fun v20 => ⟨[(2, pT 0 0), (3, pT 1 0), (4, bB false), (6, pT 2 0), (7, bB r8.2.2.2.2.2.2.2.2.1), (8, pT 3 0), (9, pT 4 0), (10, bB r15.2.2.2.2.2.2.2.2.1), (51, bB v20)], [.box [.vw none tyIII a1, .vw none tyI a2, ci a3, ci a4, ci a5, .bool a6, ci a7, ci a8, ci a9, .bool a10, .vw none tyI a11, .vw none tyI a12], .box [ci a13, ci a14, .str a15], .box [.sl 5, .sl 6, ci r8.1, ci r8.2.1, ci r8.2.2.1, .bool r8.2.2.2.1, ci r8.2.2.2.2.1, ci r8.2.2.2.2.2.1, ci r8.2.2.2.2.2.2.1, .bool r8.2.2.2.2.2.2.2.1, .sl 7, .sl 8], .box [.sl 9, .sl 10, ci a3, ci a4, ci a5, .bool a6, ci a7, ci a8, ci a9, .bool a10, .sl 11, .sl 12], .box [.sl 13, .sl 14, ci r15.1, ci r15.2.1, ci r15.2.2.1, .bool r15.2.2.2.1, ci r15.2.2.2.2.1, ci r15.2.2.2.2.2.1, ci r15.2.2.2.2.2.2.1, .bool r15.2.2.2.2.2.2.2.1, .sl 15, .sl 16], .row tyIII r8.2.2.2.2.2.2.2.2.2.1, .row tyI r8.2.2.2.2.2.2.2.2.2.2.1, .row tyI r8.2.2.2.2.2.2.2.2.2.2.2.1, .row tyI r8.2.2.2.2.2.2.2.2.2.2.2.2, .row tyIII r12.1, .row tyI r12.2.1, .row tyI r12.2.2.1, .row tyI r12.2.2.2, .row tyIII r15.2.2.2.2.2.2.2.2.2.1, .row tyI r15.2.2.2.2.2.2.2.2.2.2.1, .row tyI r15.2.2.2.2.2.2.2.2.2.2.2.1, .row tyI r15.2.2.2.2.2.2.2.2.2.2.2.2]⟩) (fun v20 hF => ?_) (fun hJJ18 => ?_)
     ·
      unfold F_laws_FnExactStreamDo_J18 at hF
      rcases condE hF with ⟨he, hF⟩ | ⟨he, hF⟩
      ·
       refine .xT he ?_ ?_
       refine .seq ?_
       refine .vW [] (some ([0, 1, 2, 3, 4, 5, 6, 7, 8, 9, 10, 11, 12, 13, 14, 15, 16], [2, 3, 4, 6, 7, 8, 9, 10])) [] trivial ?_ ?_
       cases hF
       exact .xR hE [] [] (by kernel_rfl)
       all_goals kernel_rfl
      ·
       refine .xF he ?_ ?_
       refine .skip ?_
       refine .seq ?_
       refine .seq ?_
       obtain ⟨r23, h25, hF⟩ := bindE hF
       obtain ⟨r24, h26, hF⟩ := bindE hF
       refine WA.xs [.cells 0 0 12, .cells 3 0 12] [] ?_ ?_
       refine WA.lem (pr' := [.cells 0 0 12, .cells 3 0 12]) (fuel' := 0) (listed' := #[true, true, true, true, true]) (st' := ⟨[(2, pT 0 0), (3, pT 1 0), (4, bB false), (6, pT 2 0), (7, bB r8.2.2.2.2.2.2.2.2.1), (8, pT 3 0), (9, pT 4 0), (10, bB r15.2.2.2.2.2.2.2.2.1), (56, bB (!r24))], [.box [.vw none tyIII a1, .vw none tyI a2, ci a3, ci a4, ci a5, .bool a6, ci a7, ci a8, ci a9, .bool a10, .vw none tyI a11, .vw none tyI a12], .box [ci a13, ci a14, .str a15], .box [.sl 5, .sl 6, ci r8.1, ci r8.2.1, ci r8.2.2.1, .bool r8.2.2.2.1, ci r8.2.2.2.2.1, ci r8.2.2.2.2.2.1, ci r8.2.2.2.2.2.2.1, .bool r8.2.2.2.2.2.2.2.1, .sl 7, .sl 8], .box [.sl 9, .sl 10, ci a3, ci a4, ci a5, .bool a6, ci a7, ci a8, ci a9, .bool a10, .sl 11, .sl 12], .box [.sl 13, .sl 14, ci r15.1, ci r15.2.1, ci r15.2.2.1, .bool r15.2.2.2.1, ci r15.2.2.2.2.1, ci r15.2.2.2.2.2.1, ci r15.2.2.2.2.2.2.1, .bool r15.2.2.2.2.2.2.2.1, .sl 15, .sl 16], .row tyIII r8.2.2.2.2.2.2.2.2.2.1, .row tyI r8.2.2.2.2.2.2.2.2.2.2.1, .row tyI r8.2.2.2.2.2.2.2.2.2.2.2.1, .row tyI r8.2.2.2.2.2.2.2.2.2.2.2.2, .row tyIII r12.1, .row tyI r12.2.1, .row tyI r12.2.2.1, .row tyI r12.2.2.2, .row tyIII r15.2.2.2.2.2.2.2.2.2.1, .row tyI r15.2.2.2.2.2.2.2.2.2.2.1, .row tyI r15.2.2.2.2.2.2.2.2.2.2.2.1, .row tyI r15.2.2.2.2.2.2.2.2.2.2.2.2]⟩) ?_ (fun A66 => ?_)
       ·
        refine WA.xD none ⟨[(2, pT 0 0), (3, pT 1 0), (4, bB false), (6, pT 2 0), (7, bB r8.2.2.2.2.2.2.2.2.1), (8, pT 3 0), (9, pT 4 0), (10, bB r15.2.2.2.2.2.2.2.2.1), (56, bB (!r24))], [.box [.vw none tyIII a1, .vw none tyI a2, ci a3, ci a4, ci a5, .bool a6, ci a7, ci a8, ci a9, .bool a10, .vw none tyI a11, .vw none tyI a12], .box [ci a13, ci a14, .str a15], .box [.sl 5, .sl 6, ci r8.1, ci r8.2.1, ci r8.2.2.1, .bool r8.2.2.2.1, ci r8.2.2.2.2.1, ci r8.2.2.2.2.2.1, ci r8.2.2.2.2.2.2.1, .bool r8.2.2.2.2.2.2.2.1, .sl 7, .sl 8], .box [.sl 9, .sl 10, ci a3, ci a4, ci a5, .bool a6, ci a7, ci a8, ci a9, .bool a10, .sl 11, .sl 12], .box [.sl 13, .sl 14, ci r15.1, ci r15.2.1, ci r15.2.2.1, .bool r15.2.2.2.1, ci r15.2.2.2.2.1, ci r15.2.2.2.2.2.1, ci r15.2.2.2.2.2.2.1, .bool r15.2.2.2.2.2.2.2.1, .sl 15, .sl 16], .row tyIII r8.2.2.2.2.2.2.2.2.2.1, .row tyI r8.2.2.2.2.2.2.2.2.2.2.1, .row tyI r8.2.2.2.2.2.2.2.2.2.2.2.1, .row tyI r8.2.2.2.2.2.2.2.2.2.2.2.2, .row tyIII r12.1, .row tyI r12.2.1, .row tyI r12.2.2.1, .row tyI r12.2.2.2, .row tyIII r15.2.2.2.2.2.2.2.2.2.1, .row tyI r15.2.2.2.2.2.2.2.2.2.2.1, .row tyI r15.2.2.2.2.2.2.2.2.2.2.2.1, .row tyI r15.2.2.2.2.2.2.2.2.2.2.2.2]⟩ ?_ ?_
        rcases condE hF with ⟨he, hF⟩ | ⟨he, hF⟩
        ·
         refine .xT he ?_ ?_
         refine .seq ?_
         refine .vW [] (some ([0, 1, 2, 3, 4, 5, 6, 7, 8, 9, 10, 11, 12, 13, 14, 15, 16], [2, 3, 4, 6, 7, 8, 9, 10])) [] trivial ?_ ?_
         cases hF
         exact .xR hE [] [] (by kernel_rfl)
         all_goals kernel_rfl
        ·
         refine .xF he ?_ ?_
         refine .skip ?_
         refine .seq ?_
         refine .vW [] (some ([0, 1, 2, 3, 4, 5, 6, 7, 8, 9, 10, 11, 12, 13, 14, 15, 16], [2, 3, 4, 6, 7, 8, 9, 10, 11])) [] trivial ?_ ?_
         refine .seq ?_
         refine .uB [0, 1] [2, 3] [] [] rfl trivial ?_ ?_
         obtain ⟨r28, h63, hF⟩ := bindE hF
         refine .uC false [.whole 9, .whole 10, .whole 11, .whole 12] (S_laws_markStream_3c3c k a3 a4 a5 a6 a7 a8 a9 a10 1 r12.1 r12.2.1 r12.2.2.1 r12.2.2.2 r28 h63) rfl ?_ ?_
         refine .vE [] (some ([0, 1, 2, 4, 5, 6, 7, 8, 13, 14, 15, 16], [2, 3, 4, 6, 7, 9, 10, 11])) [] trivial ?_ ?_
         refine .seq ?_
         refine .seq ?_
         refine WT.join (f := fun v31 => F_laws_FnExactStreamDo_J29 k a1 a2 a3 a4 a5 a6 a7 a8 r8 a9 a10 a11 a12 a13 a14 a15 r15 v31) (r := r) (S := fun v31 => ⟨[(2, pT 0 0), (3, pT 1 0), (4, bB false), (6, pT 2 0), (7, bB r8.2.2.2.2.2.2.2.2.1), (9, pT 3 0), (72, bB v31)], [.box [.vw none tyIII a1, .vw none tyI a2, ci a3, ci a4, ci a5, .bool a6, ci a7, ci a8, ci a9, .bool a10, .vw none tyI a11, .vw none tyI a12], .box [ci a13, ci a14, .str a15], .box [.sl 4, .sl 5, ci r8.1, ci r8.2.1, ci r8.2.2.1, .bool r8.2.2.2.1, ci r8.2.2.2.2.1, ci r8.2.2.2.2.2.1, ci r8.2.2.2.2.2.2.1, .bool r8.2.2.2.2.2.2.2.1, .sl 6, .sl 7], .box [.sl 8, .sl 9, ci r15.1, ci r15.2.1, ci r15.2.2.1, .bool r15.2.2.2.1, ci r15.2.2.2.2.1, ci r15.2.2.2.2.2.1, ci r15.2.2.2.2.2.2.1, .bool r15.2.2.2.2.2.2.2.1, .sl 10, .sl 11], .row tyIII r8.2.2.2.2.2.2.2.2.2.1, .row tyI r8.2.2.2.2.2.2.2.2.2.2.1, .row tyI r8.2.2.2.2.2.2.2.2.2.2.2.1, .row tyI r8.2.2.2.2.2.2.2.2.2.2.2.2, .row tyIII r15.2.2.2.2.2.2.2.2.2.1, .row tyI r15.2.2.2.2.2.2.2.2.2.2.1, .row tyI r15.2.2.2.2.2.2.2.2.2.2.2.1, .row tyI r15.2.2.2.2.2.2.2.2.2.2.2.2]⟩) (fun v31 hF => ?_) (fun hJJ29 => ?_)
         ·
          unfold F_laws_FnExactStreamDo_J29 at hF
          rcases condE hF with ⟨he, hF⟩ | ⟨he, hF⟩
          ·
           refine .xT he ?_ ?_
           refine .seq ?_
           refine .vW [] (some ([0, 1, 2, 3, 4, 5, 6, 7, 8, 9, 10, 11], [2, 3, 4, 6, 7, 9])) [] trivial ?_ ?_
           cases hF
           exact .xR hE [] [] (by kernel_rfl)
           all_goals kernel_rfl
          ·
           refine .xF he ?_ ?_
           refine .skip ?_
           refine .seq ?_
           refine .vW [] (some ([0, 1, 2, 3, 4, 5, 6, 7, 8, 9, 10, 11], [2, 3, 4, 6, 7, 9, 12])) [] trivial ?_ ?_
           refine .seq ?_
           refine .uB [0, 1] [2, 3] [] [] rfl trivial ?_ ?_
           obtain ⟨r33, h61, hF⟩ := bindE hF
           refine .uC false [.whole 8, .whole 9, .whole 10, .whole 11] (S_laws_markStream_3c3c k r15.1 r15.2.1 r15.2.2.1 r15.2.2.2.1 r15.2.2.2.2.1 r15.2.2.2.2.2.1 r15.2.2.2.2.2.2.1 r15.2.2.2.2.2.2.2.1 1 r15.2.2.2.2.2.2.2.2.2.1 r15.2.2.2.2.2.2.2.2.2.2.1 r15.2.2.2.2.2.2.2.2.2.2.2.1 r15.2.2.2.2.2.2.2.2.2.2.2.2 r33 h61) rfl ?_ ?_
           refine .vE [] (some ([0, 1, 2, 3, 4, 5, 6, 7, 8, 9, 10, 11], [2, 3, 4, 6, 7, 9, 12])) [] trivial ?_ ?_
           refine .seq ?_
           refine .vW [] none [] trivial ?_ ?_
           refine .seq ?_
           refine .uB [0, 1] [2, 3] [] [] rfl trivial ?_ ?_
           obtain ⟨r34, h60, hF⟩ := bindE hF
           refine .uC true [] (S_laws_heldStream k r33.2.1 r33.2.2.1 r15.1 r15.2.1 r15.2.2.1 r15.2.2.2.1 r15.2.2.2.2.1 r15.2.2.2.2.2.1 r15.2.2.2.2.2.2.1 r15.2.2.2.2.2.2.2.1 r33.2.2.2.1 r33.2.2.2.2 1 r34 h60) rfl ?_ ?_
           refine .xE [] (some ([0, 1, 2, 3, 4, 5, 6, 7, 8, 9, 10, 11], [2, 3, 4, 6, 7, 9, 12, 13])) ⟨[(2, pT 0 0), (3, pT 1 0), (4, bB false), (6, pT 2 0), (7, bB r8.2.2.2.2.2.2.2.2.1), (9, pT 3 0), (12, iI r33.1), (13, iI r34)], [.box [.vw none tyIII a1, .vw none tyI a2, ci a3, ci a4, ci a5, .bool a6, ci a7, ci a8, ci a9, .bool a10, .vw none tyI a11, .vw none tyI a12], .box [ci a13, ci a14, .str a15], .box [.sl 4, .sl 5, ci r8.1, ci r8.2.1, ci r8.2.2.1, .bool r8.2.2.2.1, ci r8.2.2.2.2.1, ci r8.2.2.2.2.2.1, ci r8.2.2.2.2.2.2.1, .bool r8.2.2.2.2.2.2.2.1, .sl 6, .sl 7], .box [.sl 8, .sl 9, ci r15.1, ci r15.2.1, ci r15.2.2.1, .bool r15.2.2.2.1, ci r15.2.2.2.2.1, ci r15.2.2.2.2.2.1, ci r15.2.2.2.2.2.2.1, .bool r15.2.2.2.2.2.2.2.1, .sl 10, .sl 11], .row tyIII r8.2.2.2.2.2.2.2.2.2.1, .row tyI r8.2.2.2.2.2.2.2.2.2.2.1, .row tyI r8.2.2.2.2.2.2.2.2.2.2.2.1, .row tyI r8.2.2.2.2.2.2.2.2.2.2.2.2, .row tyIII r33.2.1, .row tyI r33.2.2.1, .row tyI r33.2.2.2.1, .row tyI r33.2.2.2.2]⟩ [] trivial ?_ ?_
           refine .seq ?_
           refine .seq ?_
           refine .xW [] (some ([0, 1, 2, 3, 4, 5, 6, 7, 8, 9, 10, 11], [2, 3, 4, 6, 7, 9, 12, 13, 80])) ⟨[(2, pT 0 0), (3, pT 1 0), (4, bB false), (6, pT 2 0), (7, bB r8.2.2.2.2.2.2.2.2.1), (9, pT 3 0), (12, iI r33.1), (13, iI r34), (80, bB (decide (r34 < 0)))], [.box [.vw none tyIII a1, .vw none tyI a2, ci a3, ci a4, ci a5, .bool a6, ci a7, ci a8, ci a9, .bool a10, .vw none tyI a11, .vw none tyI a12], .box [ci a13, ci a14, .str a15], .box [.sl 4, .sl 5, ci r8.1, ci r8.2.1, ci r8.2.2.1, .bool r8.2.2.2.1, ci r8.2.2.2.2.1, ci r8.2.2.2.2.2.1, ci r8.2.2.2.2.2.2.1, .bool r8.2.2.2.2.2.2.2.1, .sl 6, .sl 7], .box [.sl 8, .sl 9, ci r15.1, ci r15.2.1, ci r15.2.2.1, .bool r15.2.2.2.1, ci r15.2.2.2.2.1, ci r15.2.2.2.2.2.1, ci r15.2.2.2.2.2.2.1, .bool r15.2.2.2.2.2.2.2.1, .sl 10, .sl 11], .row tyIII r8.2.2.2.2.2.2.2.2.2.1, .row tyI r8.2.2.2.2.2.2.2.2.2.2.1, .row tyI r8.2.2.2.2.2.2.2.2.2.2.2.1, .row tyI r8.2.2.2.2.2.2.2.2.2.2.2.2, .row tyIII r33.2.1, .row tyI r33.2.2.1, .row tyI r33.2.2.2.1, .row tyI r33.2.2.2.2]⟩ [] trivial ?_ ?_
           rcases condE hF with ⟨he, hF⟩ | ⟨he, hF⟩
           ·
            refine .xT he ?_ ?_
            refine .seq ?_
            refine .vW [] (some ([0, 1, 2, 3, 4, 5, 6, 7, 8, 9, 10, 11], [2, 3, 4, 6, 7, 9, 12, 13])) [] trivial ?_ ?_
            cases hF
            exact .xR hE [] [] (by kernel_rfl)
            all_goals kernel_rfl
           ·
            refine .xF he ?_ ?_
            refine .skip ?_
            refine .seq ?_
            refine .seq ?_
            refine .xW [] (some ([0, 1, 2, 3, 4, 5, 6, 7, 8, 9, 10, 11], [2, 3, 4, 6, 7, 9, 12, 83])) ⟨[(2, pT 0 0), (3, pT 1 0), (4, bB false), (6, pT 2 0), (7, bB r8.2.2.2.2.2.2.2.2.1), (9, pT 3 0), (12, iI r33.1), (83, bB (r34 != r33.1))], [.box [.vw none tyIII a1, .vw none tyI a2, ci a3, ci a4, ci a5, .bool a6, ci a7, ci a8, ci a9, .bool a10, .vw none tyI a11, .vw none tyI a12], .box [ci a13, ci a14, .str a15], .box [.sl 4, .sl 5, ci r8.1, ci r8.2.1, ci r8.2.2.1, .bool r8.2.2.2.1, ci r8.2.2.2.2.1, ci r8.2.2.2.2.2.1, ci r8.2.2.2.2.2.2.1, .bool r8.2.2.2.2.2.2.2.1, .sl 6, .sl 7], .box [.sl 8, .sl 9, ci r15.1, ci r15.2.1, ci r15.2.2.1, .bool r15.2.2.2.1, ci r15.2.2.2.2.1, ci r15.2.2.2.2.2.1, ci r15.2.2.2.2.2.2.1, .bool r15.2.2.2.2.2.2.2.1, .sl 10, .sl 11], .row tyIII r8.2.2.2.2.2.2.2.2.2.1, .row tyI r8.2.2.2.2.2.2.2.2.2.2.1, .row tyI r8.2.2.2.2.2.2.2.2.2.2.2.1, .row tyI r8.2.2.2.2.2.2.2.2.2.2.2.2, .row tyIII r33.2.1, .row tyI r33.2.2.1, .row tyI r33.2.2.2.1, .row tyI r33.2.2.2.2]⟩ [] trivial ?_ ?_
            rcases condE hF with ⟨he, hF⟩ | ⟨he, hF⟩
            ·
             refine .xT he ?_ ?_
             refine .seq ?_
             refine .vW [] (some ([0, 1, 2, 3, 4, 5, 6, 7, 8, 9, 10, 11], [2, 3, 4, 6, 7, 9, 12])) [] trivial ?_ ?_
             cases hF
             exact .xR hE [] [] (by kernel_rfl)
             all_goals kernel_rfl
            ·
             refine .xF he ?_ ?_
             refine .skip ?_
             refine .seq ?_
             obtain ⟨r38, h41, hF⟩ := bindE hF
             obtain ⟨r39, h42, hF⟩ := bindE hF
             obtain ⟨r40, h43, hF⟩ := bindE hF
             refine WA.xs [.cells 0 0 12, .cells 1 0 3] [] ?_ ?_
             refine WA.lem (pr' := [.cells 0 0 12, .cells 1 0 3]) (fuel' := 0) (listed' := #[true, true, true, true, true, true, true, true, true, true, true]) (st' := ⟨[(4, bB false), (6, pT 2 0), (7, bB r8.2.2.2.2.2.2.2.2.1), (9, pT 3 0), (12, iI r33.1), (14, pT 12 0), (15, bB r40.2.2.2.2.2.2.2.2.1)], [.box [.vw none tyIII a1, .vw none tyI a2, ci a3, ci a4, ci a5, .bool a6, ci a7, ci a8, ci a9, .bool a10, .vw none tyI a11, .vw none tyI a12], .box [ci a13, ci a14, .str a15], .box [.sl 4, .sl 5, ci r8.1, ci r8.2.1, ci r8.2.2.1, .bool r8.2.2.2.1, ci r8.2.2.2.2.1, ci r8.2.2.2.2.2.1, ci r8.2.2.2.2.2.2.1, .bool r8.2.2.2.2.2.2.2.1, .sl 6, .sl 7], .box [.sl 8, .sl 9, ci r15.1, ci r15.2.1, ci r15.2.2.1, .bool r15.2.2.2.1, ci r15.2.2.2.2.1, ci r15.2.2.2.2.2.1, ci r15.2.2.2.2.2.2.1, .bool r15.2.2.2.2.2.2.2.1, .sl 10, .sl 11], .row tyIII r8.2.2.2.2.2.2.2.2.2.1, .row tyI r8.2.2.2.2.2.2.2.2.2.2.1, .row tyI r8.2.2.2.2.2.2.2.2.2.2.2.1, .row tyI r8.2.2.2.2.2.2.2.2.2.2.2.2, .row tyIII r33.2.1, .row tyI r33.2.2.1, .row tyI r33.2.2.2.1, .row tyI r33.2.2.2.2, .box [.sl 13, .sl 14, ci r40.1, ci r40.2.1, ci r40.2.2.1, .bool r40.2.2.2.1, ci r40.2.2.2.2.1, ci r40.2.2.2.2.2.1, ci r40.2.2.2.2.2.2.1, .bool r40.2.2.2.2.2.2.2.1, .sl 15, .sl 16], .row tyIII r40.2.2.2.2.2.2.2.2.2.1, .row tyI r40.2.2.2.2.2.2.2.2.2.2.1, .row tyI r40.2.2.2.2.2.2.2.2.2.2.2.1, .row tyI r40.2.2.2.2.2.2.2.2.2.2.2.2]⟩) ?_ (fun A58 => ?_)
             ·
              refine WA.xD (some ([2, 3, 12, 4, 5, 6, 7, 8, 9, 10, 11, 13, 14, 15, 16], [4, 6, 7, 9, 12, 14, 15])) ⟨[(4, bB false), (6, pT 0 0), (7, bB r8.2.2.2.2.2.2.2.2.1), (9, pT 1 0), (12, iI r33.1), (14, pT 2 0), (15, bB r40.2.2.2.2.2.2.2.2.1)], [.box [.sl 3, .sl 4, ci r8.1, ci r8.2.1, ci r8.2.2.1, .bool r8.2.2.2.1, ci r8.2.2.2.2.1, ci r8.2.2.2.2.2.1, ci r8.2.2.2.2.2.2.1, .bool r8.2.2.2.2.2.2.2.1, .sl 5, .sl 6], .box [.sl 7, .sl 8, ci r15.1, ci r15.2.1, ci r15.2.2.1, .bool r15.2.2.2.1, ci r15.2.2.2.2.1, ci r15.2.2.2.2.2.1, ci r15.2.2.2.2.2.2.1, .bool r15.2.2.2.2.2.2.2.1, .sl 9, .sl 10], .box [.sl 11, .sl 12, ci r40.1, ci r40.2.1, ci r40.2.2.1, .bool r40.2.2.2.1, ci r40.2.2.2.2.1, ci r40.2.2.2.2.2.1, ci r40.2.2.2.2.2.2.1, .bool r40.2.2.2.2.2.2.2.1, .sl 13, .sl 14], .row tyIII r8.2.2.2.2.2.2.2.2.2.1, .row tyI r8.2.2.2.2.2.2.2.2.2.2.1, .row tyI r8.2.2.2.2.2.2.2.2.2.2.2.1, .row tyI r8.2.2.2.2.2.2.2.2.2.2.2.2, .row tyIII r33.2.1, .row tyI r33.2.2.1, .row tyI r33.2.2.2.1, .row tyI r33.2.2.2.2, .row tyIII r40.2.2.2.2.2.2.2.2.2.1, .row tyI r40.2.2.2.2.2.2.2.2.2.2.1, .row tyI r40.2.2.2.2.2.2.2.2.2.2.2.1, .row tyI r40.2.2.2.2.2.2.2.2.2.2.2.2]⟩ ?_ ?_
              refine .seq ?_
              refine .seq ?_
              refine WT.join (f := fun v46 => F_laws_FnExactStreamDo_J44 k r15 r33 v46) (r := r) (S := fun v46 => ⟨[(4, bB false), (9, pT 0 0), (12, iI r33.1), (100, bB v46)], [.box [.sl 1, .sl 2, ci r15.1, ci r15.2.1, ci r15.2.2.1, .bool r15.2.2.2.1, ci r15.2.2.2.2.1, ci r15.2.2.2.2.2.1, ci r15.2.2.2.2.2.2.1, .bool r15.2.2.2.2.2.2.2.1, .sl 3, .sl 4], .row tyIII r33.2.1, .row tyI r33.2.2.1, .row tyI r33.2.2.2.1, .row tyI r33.2.2.2.2]⟩) (fun v46 hF => ?_) (fun hJJ44 => ?_)
              ·
               unfold F_laws_FnExactStreamDo_J44 at hF
               rcases condE hF with ⟨he, hF⟩ | ⟨he, hF⟩
               ·
                refine .xT he ?_ ?_
                refine .seq ?_
                refine .vW [] (some ([0, 1, 2, 3, 4], [4, 9, 12])) [] trivial ?_ ?_
                cases hF
                exact .xR hE [] [] (by kernel_rfl)
                all_goals kernel_rfl
               ·
                refine .xF he ?_ ?_
                refine .skip ?_
                refine .seq ?_
                refine .xW [] (some ([0, 1, 2, 3, 4], [4, 9, 12, 13])) ⟨[(4, bB false), (9, pT 0 0), (12, iI r33.1), (13, iI 1)], [.box [.sl 1, .sl 2, ci r15.1, ci r15.2.1, ci r15.2.2.1, .bool r15.2.2.2.1, ci r15.2.2.2.2.1, ci r15.2.2.2.2.2.1, ci r15.2.2.2.2.2.2.1, .bool r15.2.2.2.2.2.2.2.1, .sl 3, .sl 4], .row tyIII r33.2.1, .row tyI r33.2.2.1, .row tyI r33.2.2.2.1, .row tyI r33.2.2.2.2]⟩ [] trivial ?_ ?_
                refine .seq ?_
                refine .uB [0, 1] [2, 3] [] [] rfl trivial ?_ ?_
                obtain ⟨r48, h51, hF⟩ := bindE hF
                refine .uC true [] (S_laws_heldStream k r33.2.1 r33.2.2.1 r15.1 r15.2.1 r15.2.2.1 r15.2.2.2.1 r15.2.2.2.2.1 r15.2.2.2.2.2.1 r15.2.2.2.2.2.2.1 r15.2.2.2.2.2.2.2.1 r33.2.2.2.1 r33.2.2.2.2 1 r48 h51) rfl ?_ ?_
                refine .vE [] (some ([], [4, 12, 13])) [] trivial ?_ ?_
                refine .seq ?_
                refine .seq ?_
                refine .xW [] (some ([], [4, 12, 13, 105])) ⟨[(4, bB false), (12, iI r33.1), (13, iI r48), (105, bB (decide (r48 < 0)))], []⟩ [] trivial ?_ ?_
                rcases condE hF with ⟨he, hF⟩ | ⟨he, hF⟩
                ·
                 refine .xT he ?_ ?_
                 refine .seq ?_
                 refine .vW [] (some ([], [4, 12, 13])) [] trivial ?_ ?_
                 cases hF
                 exact .xR hE [] [] (by kernel_rfl)
                 all_goals kernel_rfl
                ·
                 refine .xF he ?_ ?_
                 refine .skip ?_
                 refine .seq ?_
                 refine .seq ?_
                 refine .xW [] (some ([], [4, 108])) ⟨[(4, bB false), (108, bB (r48 != r33.1))], []⟩ [] trivial ?_ ?_
                 rcases condE hF with ⟨he, hF⟩ | ⟨he, hF⟩
                 ·
                  refine .xT he ?_ ?_
                  refine .seq ?_
                  refine .vW [] (some ([], [4])) [] trivial ?_ ?_
                  cases hF
                  exact .xR hE [] [] (by kernel_rfl)
                  all_goals kernel_rfl
                 ·
                  refine .xF he ?_ ?_
                  refine .skip ?_
                  refine .seq ?_
                  refine .vW [] (some ([], [4])) [] trivial ?_ ?_
                  cases hF
                  exact .xR hE [] [] (by kernel_rfl)
                  all_goals kernel_rfl
                 all_goals kernel_rfl
                all_goals kernel_rfl
               all_goals kernel_rfl
              ·
               refine .uB [0, 1] [2, 3, 4, 5, 6, 7, 8] [] [] rfl trivial ?_ ?_
               obtain ⟨r45, h52, hF⟩ := bindE hF
               refine .uC true [] (S_laws_eqStream k r40.2.2.2.2.2.2.2.2.2.1 r40.2.2.2.2.2.2.2.2.2.2.1 r40.1 r40.2.1 r40.2.2.1 r40.2.2.2.1 r40.2.2.2.2.1 r40.2.2.2.2.2.1 r40.2.2.2.2.2.2.1 r40.2.2.2.2.2.2.2.1 r40.2.2.2.2.2.2.2.2.2.2.2.1 r40.2.2.2.2.2.2.2.2.2.2.2.2 r8.2.2.2.2.2.2.2.2.2.1 r8.2.2.2.2.2.2.2.2.2.2.1 r8.1 r8.2.1 r8.2.2.1 r8.2.2.2.1 r8.2.2.2.2.1 r8.2.2.2.2.2.1 r8.2.2.2.2.2.2.1 r8.2.2.2.2.2.2.2.1 r8.2.2.2.2.2.2.2.2.2.2.2.1 r8.2.2.2.2.2.2.2.2.2.2.2.2 r45 h52) rfl ?_ ?_
               refine .uN [3, 4] [5, 6, 7, 8] [] [] rfl trivial ?_ ?_
               rcases condE hF with ⟨he, hF⟩ | ⟨he, hF⟩
               ·
                refine WT.putB [96, 95] he ?_ ?_
                refine .vE [] (some ([1, 7, 8, 9, 10], [4, 9, 12, 100])) [] trivial ?_ ?_
                exact .xS [.pick [0, 1, 2, 3, 4] [4, 9, 12, 100]] (hJJ44 (true) hF) (by kernel_rfl)
                all_goals kernel_rfl
               ·
                refine WT.putB [96, 95] he ?_ ?_
                refine .vE [] (some ([1, 7, 8, 9, 10], [4, 9, 12, 100])) [] trivial ?_ ?_
                exact .xS [.pick [0, 1, 2, 3, 4] [4, 9, 12, 100]] (hJJ44 (r40.2.2.2.2.2.2.2.2.1 != r8.2.2.2.2.2.2.2.2.1) hF) (by kernel_rfl)
                all_goals kernel_rfl
               all_goals kernel_rfl
              all_goals kernel_rfl
             refine WA.lem (pr' := [.cells 0 0 12, .cells 1 0 3]) (fuel' := 6) (listed' := #[true, true, true, true, false, false, false, false, true, false, false]) (st' := ⟨[(4, bB false), (6, pT 2 0), (7, bB r8.2.2.2.2.2.2.2.2.1), (9, pT 3 0), (12, iI r33.1), (14, pT 12 0), (86, aG [.sl 13, .sl 14, ci a3, ci a4, ci a5, .bool a6, ci a7, ci a8, ci a9, .bool a10, .sl 15, .sl 16]), (88, aG [ci a13, ci a14, .str a15])], [.box [.vw none tyIII a1, .vw none tyI a2, ci a3, ci a4, ci a5, .bool a6, ci a7, ci a8, ci a9, .bool a10, .vw none tyI a11, .vw none tyI a12], .box [ci a13, ci a14, .str a15], .box [.sl 4, .sl 5, ci r8.1, ci r8.2.1, ci r8.2.2.1, .bool r8.2.2.2.1, ci r8.2.2.2.2.1, ci r8.2.2.2.2.2.1, ci r8.2.2.2.2.2.2.1, .bool r8.2.2.2.2.2.2.2.1, .sl 6, .sl 7], .box [.sl 8, .sl 9, ci r15.1, ci r15.2.1, ci r15.2.2.1, .bool r15.2.2.2.1, ci r15.2.2.2.2.1, ci r15.2.2.2.2.2.1, ci r15.2.2.2.2.2.2.1, .bool r15.2.2.2.2.2.2.2.1, .sl 10, .sl 11], .row tyIII r8.2.2.2.2.2.2.2.2.2.1, .row tyI r8.2.2.2.2.2.2.2.2.2.2.1, .row tyI r8.2.2.2.2.2.2.2.2.2.2.2.1, .row tyI r8.2.2.2.2.2.2.2.2.2.2.2.2, .row tyIII r33.2.1, .row tyI r33.2.2.1, .row tyI r33.2.2.2.1, .row tyI r33.2.2.2.2, .box [.nilsl, .nilsl, ci 0, ci 0, ci 0, .bool false, ci 0, ci 0, ci 0, .bool false, .nilsl, .nilsl], .row tyIII r38.1, .row tyI r38.2.1, .row tyI r38.2.2.1, .row tyI r38.2.2.2]⟩) ?_ (fun A59 => ?_)
             ·
              refine WA.x1 4 (WO.uC true [] [.cells 0 0 12, .cells 1 0 3] (S_impl_StreamDo k r38.1 r38.2.1 a3 a4 a5 a6 a7 a8 a9 a10 r38.2.2.1 r38.2.2.2 a13 a14 a15 r40 h43) rfl ?_ ?_) ?_
              exact WA.to 5 [] [] [0, 1, 2, 3, 4, 5, 6, 7, 8, 9, 10, 11, 12, 17, 18, 19, 20] [4, 6, 7, 9, 12, 14, 15] A58 trivial (by kernel_rfl)
              all_goals kernel_rfl
             refine WA.lem (pr' := [.cells 0 0 12, .cells 1 0 3]) (fuel' := 7) (listed' := #[true, true, true, true, false, false, false, false, false, false, false]) (st' := ⟨[(4, bB false), (6, pT 2 0), (7, bB r8.2.2.2.2.2.2.2.2.1), (9, pT 3 0), (12, iI r33.1), (86, aG [.sl 12, .sl 13, ci a3, ci a4, ci a5, .bool a6, ci a7, ci a8, ci a9, .bool a10, .sl 14, .sl 15]), (88, aG [ci a13, ci a14, .str a15])], [.box [.vw none tyIII a1, .vw none tyI a2, ci a3, ci a4, ci a5, .bool a6, ci a7, ci a8, ci a9, .bool a10, .vw none tyI a11, .vw none tyI a12], .box [ci a13, ci a14, .str a15], .box [.sl 4, .sl 5, ci r8.1, ci r8.2.1, ci r8.2.2.1, .bool r8.2.2.2.1, ci r8.2.2.2.2.1, ci r8.2.2.2.2.2.1, ci r8.2.2.2.2.2.2.1, .bool r8.2.2.2.2.2.2.2.1, .sl 6, .sl 7], .box [.sl 8, .sl 9, ci r15.1, ci r15.2.1, ci r15.2.2.1, .bool r15.2.2.2.1, ci r15.2.2.2.2.1, ci r15.2.2.2.2.2.1, ci r15.2.2.2.2.2.2.1, .bool r15.2.2.2.2.2.2.2.1, .sl 10, .sl 11], .row tyIII r8.2.2.2.2.2.2.2.2.2.1, .row tyI r8.2.2.2.2.2.2.2.2.2.2.1, .row tyI r8.2.2.2.2.2.2.2.2.2.2.2.1, .row tyI r8.2.2.2.2.2.2.2.2.2.2.2.2, .row tyIII r33.2.1, .row tyI r33.2.2.1, .row tyI r33.2.2.2.1, .row tyI r33.2.2.2.2, .row tyIII r38.1, .row tyI r38.2.1, .row tyI r38.2.2.1, .row tyI r38.2.2.2]⟩) ?_ (fun A56 => ?_)
             ·
              refine WA.xf [4, 8] (by simp) (allW2 ?_ ?_) ?_
              ·
               refine WO.uC true [] [.cells 0 0 12, .cells 1 0 3] (S_impl_StreamDo k r38.1 r38.2.1 a3 a4 a5 a6 a7 a8 a9 a10 r38.2.2.1 r38.2.2.2 a13 a14 a15 r40 h43) rfl ?_ ?_
               exact WA.to 6 [] [] [0, 1, 2, 3, 4, 5, 6, 7, 8, 9, 10, 11, 20, 16, 17, 18, 19] [4, 6, 7, 9, 12, 14, 15] A58 trivial (by kernel_rfl)
               all_goals kernel_rfl
              ·
               refine WO.uM [] [] trivial ?_ ?_
               exact WA.to 0 [] [] [0, 1, 2, 3, 4, 5, 6, 7, 8, 9, 10, 11, 16, 12, 13, 14, 15] [4, 6, 7, 9, 12, 14, 86, 88] A59 trivial (by kernel_rfl)
               all_goals kernel_rfl
              kernel_rfl
             refine WA.lem (pr' := [.cells 0 0 12, .cells 1 0 3]) (fuel' := 7) (listed' := #[true, true, true, false, false, false, false, false, true, false, false]) (st' := ⟨[(4, bB false), (6, pT 2 0), (7, bB r8.2.2.2.2.2.2.2.2.1), (9, pT 3 0), (12, iI r33.1), (14, pT 12 0), (86, aG [.sl 13, .sl 14, ci a3, ci a4, ci a5, .bool a6, ci a7, ci a8, ci a9, .bool a10, .sl 15, .sl 16]), (87, aG [ci a13, ci a14, .str a15])], [.box [.vw none tyIII a1, .vw none tyI a2, ci a3, ci a4, ci a5, .bool a6, ci a7, ci a8, ci a9, .bool a10, .vw none tyI a11, .vw none tyI a12], .box [ci a13, ci a14, .str a15], .box [.sl 4, .sl 5, ci r8.1, ci r8.2.1, ci r8.2.2.1, .bool r8.2.2.2.1, ci r8.2.2.2.2.1, ci r8.2.2.2.2.2.1, ci r8.2.2.2.2.2.2.1, .bool r8.2.2.2.2.2.2.2.1, .sl 6, .sl 7], .box [.sl 8, .sl 9, ci r15.1, ci r15.2.1, ci r15.2.2.1, .bool r15.2.2.2.1, ci r15.2.2.2.2.1, ci r15.2.2.2.2.2.1, ci r15.2.2.2.2.2.2.1, .bool r15.2.2.2.2.2.2.2.1, .sl 10, .sl 11], .row tyIII r8.2.2.2.2.2.2.2.2.2.1, .row tyI r8.2.2.2.2.2.2.2.2.2.2.1, .row tyI r8.2.2.2.2.2.2.2.2.2.2.2.1, .row tyI r8.2.2.2.2.2.2.2.2.2.2.2.2, .row tyIII r33.2.1, .row tyI r33.2.2.1, .row tyI r33.2.2.2.1, .row tyI r33.2.2.2.2, .box [.nilsl, .nilsl, ci 0, ci 0, ci 0, .bool false, ci 0, ci 0, ci 0, .bool false, .nilsl, .nilsl], .row tyIII r38.1, .row tyI r38.2.1, .row tyI r38.2.2.1, .row tyI r38.2.2.2]⟩) ?_ (fun A57 => ?_)
             ·
              refine WA.x1 3 (WO.uC false [] [.cells 0 0 12, .cells 1 0 3] (S_laws_toAction k a13 a14 a15 r39 h42) rfl ?_ ?_) ?_
              exact WA.to 0 [] [] [0, 1, 2, 3, 4, 5, 6, 7, 8, 9, 10, 11, 12, 13, 14, 15, 16] [4, 6, 7, 9, 12, 14, 86, 88] A59 trivial (by kernel_rfl)
              all_goals kernel_rfl
             refine WA.lem (pr' := [.cells 0 0 12, .cells 1 0 3]) (fuel' := 8) (listed' := #[true, true, true, false, false, false, false, false, false, false, false]) (st' := ⟨[(4, bB false), (6, pT 2 0), (7, bB r8.2.2.2.2.2.2.2.2.1), (9, pT 3 0), (12, iI r33.1), (86, aG [.sl 12, .sl 13, ci a3, ci a4, ci a5, .bool a6, ci a7, ci a8, ci a9, .bool a10, .sl 14, .sl 15]), (87, aG [ci a13, ci a14, .str a15])], [.box [.vw none tyIII a1, .vw none tyI a2, ci a3, ci a4, ci a5, .bool a6, ci a7, ci a8, ci a9, .bool a10, .vw none tyI a11, .vw none tyI a12], .box [ci a13, ci a14, .str a15], .box [.sl 4, .sl 5, ci r8.1, ci r8.2.1, ci r8.2.2.1, .bool r8.2.2.2.1, ci r8.2.2.2.2.1, ci r8.2.2.2.2.2.1, ci r8.2.2.2.2.2.2.1, .bool r8.2.2.2.2.2.2.2.1, .sl 6, .sl 7], .box [.sl 8, .sl 9, ci r15.1, ci r15.2.1, ci r15.2.2.1, .bool r15.2.2.2.1, ci r15.2.2.2.2.1, ci r15.2.2.2.2.2.1, ci r15.2.2.2.2.2.2.1, .bool r15.2.2.2.2.2.2.2.1, .sl 10, .sl 11], .row tyIII r8.2.2.2.2.2.2.2.2.2.1, .row tyI r8.2.2.2.2.2.2.2.2.2.2.1, .row tyI r8.2.2.2.2.2.2.2.2.2.2.2.1, .row tyI r8.2.2.2.2.2.2.2.2.2.2.2.2, .row tyIII r33.2.1, .row tyI r33.2.2.1, .row tyI r33.2.2.2.1, .row tyI r33.2.2.2.2, .row tyIII r38.1, .row tyI r38.2.1, .row tyI r38.2.2.1, .row tyI r38.2.2.2]⟩) ?_ (fun A54 => ?_)
             ·
              refine WA.xf [3, 8] (by simp) (allW2 ?_ ?_) ?_
              ·
               refine WO.uC false [] [.cells 0 0 12, .cells 1 0 3] (S_laws_toAction k a13 a14 a15 r39 h42) rfl ?_ ?_
               exact WA.to 0 [] [] [0, 1, 2, 3, 4, 5, 6, 7, 8, 9, 10, 11, 12, 13, 14, 15] [4, 6, 7, 9, 12, 86, 88] A56 trivial (by kernel_rfl)
               all_goals kernel_rfl
              ·
               refine WO.uM [] [] trivial ?_ ?_
               exact WA.to 0 [] [] [0, 1, 2, 3, 4, 5, 6, 7, 8, 9, 10, 11, 16, 12, 13, 14, 15] [4, 6, 7, 9, 12, 14, 86, 87] A57 trivial (by kernel_rfl)
               all_goals kernel_rfl
              kernel_rfl
             refine WA.lem (pr' := [.cells 0 0 12, .cells 1 0 3]) (fuel' := 8) (listed' := #[true, false, true, false, false, false, false, false, true, false, false]) (st' := ⟨[(4, bB false), (6, pT 2 0), (7, bB r8.2.2.2.2.2.2.2.2.1), (9, pT 3 0), (12, iI r33.1), (14, pT 12 0), (85, aG [.vw none tyIII a1, .vw none tyI a2, ci a3, ci a4, ci a5, .bool a6, ci a7, ci a8, ci a9, .bool a10, .vw none tyI a11, .vw none tyI a12]), (87, aG [ci a13, ci a14, .str a15])], [.box [.vw none tyIII a1, .vw none tyI a2, ci a3, ci a4, ci a5, .bool a6, ci a7, ci a8, ci a9, .bool a10, .vw none tyI a11, .vw none tyI a12], .box [ci a13, ci a14, .str a15], .box [.sl 4, .sl 5, ci r8.1, ci r8.2.1, ci r8.2.2.1, .bool r8.2.2.2.1, ci r8.2.2.2.2.1, ci r8.2.2.2.2.2.1, ci r8.2.2.2.2.2.2.1, .bool r8.2.2.2.2.2.2.2.1, .sl 6, .sl 7], .box [.sl 8, .sl 9, ci r15.1, ci r15.2.1, ci r15.2.2.1, .bool r15.2.2.2.1, ci r15.2.2.2.2.1, ci r15.2.2.2.2.2.1, ci r15.2.2.2.2.2.2.1, .bool r15.2.2.2.2.2.2.2.1, .sl 10, .sl 11], .row tyIII r8.2.2.2.2.2.2.2.2.2.1, .row tyI r8.2.2.2.2.2.2.2.2.2.2.1, .row tyI r8.2.2.2.2.2.2.2.2.2.2.2.1, .row tyI r8.2.2.2.2.2.2.2.2.2.2.2.2, .row tyIII r33.2.1, .row tyI r33.2.2.1, .row tyI r33.2.2.2.1, .row tyI r33.2.2.2.2, .box [.nilsl, .nilsl, ci 0, ci 0, ci 0, .bool false, ci 0, ci 0, ci 0, .bool false, .nilsl, .nilsl]]⟩) ?_ (fun A55 => ?_)
             ·
              refine WA.x1 1 (WO.uC false [] [.cells 0 0 12, .cells 1 0 3] (S_laws_toStream k a1 a2 a3 a4 a5 a6 a7 a8 a9 a10 a11 a12 r38 h41) rfl ?_ ?_) ?_
              exact WA.to 0 [] [] [0, 1, 2, 3, 4, 5, 6, 7, 8, 9, 10, 11, 12, 13, 14, 15, 16] [4, 6, 7, 9, 12, 14, 86, 87] A57 trivial (by kernel_rfl)
              all_goals kernel_rfl
             refine WA.lem (pr' := [.cells 0 0 12, .cells 1 0 3]) (fuel' := 9) (listed' := #[true, false, true, false, false, false, false, false, false, false, false]) (st' := ⟨[(4, bB false), (6, pT 2 0), (7, bB r8.2.2.2.2.2.2.2.2.1), (9, pT 3 0), (12, iI r33.1), (85, aG [.vw none tyIII a1, .vw none tyI a2, ci a3, ci a4, ci a5, .bool a6, ci a7, ci a8, ci a9, .bool a10, .vw none tyI a11, .vw none tyI a12]), (87, aG [ci a13, ci a14, .str a15])], [.box [.vw none tyIII a1, .vw none tyI a2, ci a3, ci a4, ci a5, .bool a6, ci a7, ci a8, ci a9, .bool a10, .vw none tyI a11, .vw none tyI a12], .box [ci a13, ci a14, .str a15], .box [.sl 4, .sl 5, ci r8.1, ci r8.2.1, ci r8.2.2.1, .bool r8.2.2.2.1, ci r8.2.2.2.2.1, ci r8.2.2.2.2.2.1, ci r8.2.2.2.2.2.2.1, .bool r8.2.2.2.2.2.2.2.1, .sl 6, .sl 7], .box [.sl 8, .sl 9, ci r15.1, ci r15.2.1, ci r15.2.2.1, .bool r15.2.2.2.1, ci r15.2.2.2.2.1, ci r15.2.2.2.2.2.1, ci r15.2.2.2.2.2.2.1, .bool r15.2.2.2.2.2.2.2.1, .sl 10, .sl 11], .row tyIII r8.2.2.2.2.2.2.2.2.2.1, .row tyI r8.2.2.2.2.2.2.2.2.2.2.1, .row tyI r8.2.2.2.2.2.2.2.2.2.2.2.1, .row tyI r8.2.2.2.2.2.2.2.2.2.2.2.2, .row tyIII r33.2.1, .row tyI r33.2.2.1, .row tyI r33.2.2.2.1, .row tyI r33.2.2.2.2]⟩) ?_ (fun A53 => ?_)
             ·
              refine WA.xf [1, 8] (by simp) (allW2 ?_ ?_) ?_
              ·
               refine WO.uC false [] [.cells 0 0 12, .cells 1 0 3] (S_laws_toStream k a1 a2 a3 a4 a5 a6 a7 a8 a9 a10 a11 a12 r38 h41) rfl ?_ ?_
               exact WA.to 0 [] [] [0, 1, 2, 3, 4, 5, 6, 7, 8, 9, 10, 11, 12, 13, 14, 15] [4, 6, 7, 9, 12, 86, 87] A54 trivial (by kernel_rfl)
               all_goals kernel_rfl
              ·
               refine WO.uM [] [] trivial ?_ ?_
               exact WA.to 0 [] [] [0, 1, 2, 3, 4, 5, 6, 7, 8, 9, 10, 11, 12] [4, 6, 7, 9, 12, 14, 85, 87] A55 trivial (by kernel_rfl)
               all_goals kernel_rfl
              kernel_rfl
             exact WA.to 2 [] [] [0, 1, 2, 3, 4, 5, 6, 7, 8, 9, 10, 11] [4, 6, 7, 9, 12, 85, 87] A53 trivial (by kernel_rfl)
             all_goals kernel_rfl
            all_goals kernel_rfl
           all_goals kernel_rfl
          all_goals kernel_rfl
         ·
          refine .uB [0, 1, 2] [3, 4, 5, 6, 7, 8, 9, 10, 11, 12] [] [] rfl trivial ?_ ?_
          rcases condE hF with ⟨he, hF⟩ | ⟨he, hF⟩
          ·
           refine WT.putB [62, 61] he ?_ ?_
           refine .vE [] (some ([0, 1, 2, 3, 4, 5, 6, 7, 8, 9, 10, 11], [2, 3, 4, 6, 7, 9, 72])) [] trivial ?_ ?_
           exact .xS [.pick [0, 1, 2, 3, 4, 5, 6, 7, 8, 9, 10, 11] [2, 3, 4, 6, 7, 9, 72]] (hJJ29 (true) hF) (by kernel_rfl)
           all_goals kernel_rfl
          ·
           refine WT.putB [62, 61] he ?_ ?_
           refine .uN [3, 4] [5, 6, 7, 8, 9, 10, 11, 12] [] [] rfl trivial ?_ ?_
           obtain ⟨r30, h62, hF⟩ := bindE hF
           refine .uC true [] (S_laws_eqStream k r15.2.2.2.2.2.2.2.2.2.1 r15.2.2.2.2.2.2.2.2.2.2.1 r15.1 r15.2.1 r15.2.2.1 r15.2.2.2.1 r15.2.2.2.2.1 r15.2.2.2.2.2.1 r15.2.2.2.2.2.2.1 r15.2.2.2.2.2.2.2.1 r15.2.2.2.2.2.2.2.2.2.2.2.1 r15.2.2.2.2.2.2.2.2.2.2.2.2 r8.2.2.2.2.2.2.2.2.2.1 r8.2.2.2.2.2.2.2.2.2.2.1 r8.1 r8.2.1 r8.2.2.1 r8.2.2.2.1 r8.2.2.2.2.1 r8.2.2.2.2.2.1 r8.2.2.2.2.2.2.1 r8.2.2.2.2.2.2.2.1 r8.2.2.2.2.2.2.2.2.2.2.2.1 r8.2.2.2.2.2.2.2.2.2.2.2.2 r30 h62) rfl ?_ ?_
           refine .uN [6, 7, 8] [9, 10, 11, 12] [] [] rfl trivial ?_ ?_
           rcases condE hF with ⟨he, hF⟩ | ⟨he, hF⟩
           ·
            refine WT.putB [68, 67, 66] he ?_ ?_
            refine .vE [] (some ([0, 1, 2, 3, 4, 5, 6, 7, 8, 9, 10, 11], [2, 3, 4, 6, 7, 9, 72])) [] trivial ?_ ?_
            exact .xS [.pick [0, 1, 2, 3, 4, 5, 6, 7, 8, 9, 10, 11] [2, 3, 4, 6, 7, 9, 72]] (hJJ29 (true) hF) (by kernel_rfl)
            all_goals kernel_rfl
           ·
            refine WT.putB [68, 67, 66] he ?_ ?_
            refine .vE [] (some ([0, 1, 2, 3, 4, 5, 6, 7, 8, 9, 10, 11], [2, 3, 4, 6, 7, 9, 72])) [] trivial ?_ ?_
            exact .xS [.pick [0, 1, 2, 3, 4, 5, 6, 7, 8, 9, 10, 11] [2, 3, 4, 6, 7, 9, 72]] (hJJ29 (r15.2.2.2.2.2.2.2.2.1 != r8.2.2.2.2.2.2.2.2.1) hF) (by kernel_rfl)
            all_goals kernel_rfl
           all_goals kernel_rfl
          all_goals kernel_rfl
         all_goals kernel_rfl
        all_goals kernel_rfl
       refine WA.lem (pr' := [.cells 0 0 12, .cells 3 0 12]) (fuel' := 2) (listed' := #[true, true, true, false, false]) (st' := ⟨[(2, pT 0 0), (3, pT 1 0), (4, bB false), (6, pT 2 0), (7, bB r8.2.2.2.2.2.2.2.2.1), (8, pT 3 0), (9, pT 4 0), (10, bB r15.2.2.2.2.2.2.2.2.1), (52, aG [.sl 9, .sl 10, ci a3, ci a4, ci a5, .bool a6, ci a7, ci a8, ci a9, .bool a10, .sl 11, .sl 12]), (54, aG [.sl 17, .sl 18, ci a3, ci a4, ci a5, .bool a6, ci a7, ci a8, ci a9, .bool a10, .sl 19, .sl 20])], [.box [.vw none tyIII a1, .vw none tyI a2, ci a3, ci a4, ci a5, .bool a6, ci a7, ci a8, ci a9, .bool a10, .vw none tyI a11, .vw none tyI a12], .box [ci a13, ci a14, .str a15], .box [.sl 5, .sl 6, ci r8.1, ci r8.2.1, ci r8.2.2.1, .bool r8.2.2.2.1, ci r8.2.2.2.2.1, ci r8.2.2.2.2.2.1, ci r8.2.2.2.2.2.2.1, .bool r8.2.2.2.2.2.2.2.1, .sl 7, .sl 8], .box [.sl 9, .sl 10, ci a3, ci a4, ci a5, .bool a6, ci a7, ci a8, ci a9, .bool a10, .sl 11, .sl 12], .box [.sl 13, .sl 14, ci r15.1, ci r15.2.1, ci r15.2.2.1, .bool r15.2.2.2.1, ci r15.2.2.2.2.1, ci r15.2.2.2.2.2.1, ci r15.2.2.2.2.2.2.1, .bool r15.2.2.2.2.2.2.2.1, .sl 15, .sl 16], .row tyIII r8.2.2.2.2.2.2.2.2.2.1, .row tyI r8.2.2.2.2.2.2.2.2.2.2.1, .row tyI r8.2.2.2.2.2.2.2.2.2.2.2.1, .row tyI r8.2.2.2.2.2.2.2.2.2.2.2.2, .row tyIII r12.1, .row tyI r12.2.1, .row tyI r12.2.2.1, .row tyI r12.2.2.2, .row tyIII r15.2.2.2.2.2.2.2.2.2.1, .row tyI r15.2.2.2.2.2.2.2.2.2.2.1, .row tyI r15.2.2.2.2.2.2.2.2.2.2.2.1, .row tyI r15.2.2.2.2.2.2.2.2.2.2.2.2, .row tyIII r23.1, .row tyI r23.2.1, .row tyI r23.2.2.1, .row tyI r23.2.2.2]⟩) ?_ (fun A65 => ?_)
       ·
        refine WA.x1 3 (WO.uC true [] [.cells 0 0 12, .cells 3 0 12] (S_laws_eqStream k r12.1 r12.2.1 a3 a4 a5 a6 a7 a8 a9 a10 r12.2.2.1 r12.2.2.2 r23.1 r23.2.1 a3 a4 a5 a6 a7 a8 a9 a10 r23.2.2.1 r23.2.2.2 r24 h26) rfl ?_ ?_) ?_
        exact WA.to 1 [] [] [0, 1, 2, 3, 4, 5, 6, 7, 8, 9, 10, 11, 12, 13, 14, 15, 16] [2, 3, 4, 6, 7, 8, 9, 10, 56] A66 trivial (by kernel_rfl)
        all_goals kernel_rfl
       refine WA.lem (pr' := [.cells 0 0 12, .cells 3 0 12]) (fuel' := 3) (listed' := #[true, true, false, false, false]) (st' := ⟨[(2, pT 0 0), (3, pT 1 0), (4, bB false), (6, pT 2 0), (7, bB r8.2.2.2.2.2.2.2.2.1), (8, pT 3 0), (9, pT 4 0), (10, bB r15.2.2.2.2.2.2.2.2.1), (52, aG [.sl 9, .sl 10, ci a3, ci a4, ci a5, .bool a6, ci a7, ci a8, ci a9, .bool a10, .sl 11, .sl 12]), (53, aG [.vw none tyIII a1, .vw none tyI a2, ci a3, ci a4, ci a5, .bool a6, ci a7, ci a8, ci a9, .bool a10, .vw none tyI a11, .vw none tyI a12])], [.box [.vw none tyIII a1, .vw none tyI a2, ci a3, ci a4, ci a5, .bool a6, ci a7, ci a8, ci a9, .bool a10, .vw none tyI a11, .vw none tyI a12], .box [ci a13, ci a14, .str a15], .box [.sl 5, .sl 6, ci r8.1, ci r8.2.1, ci r8.2.2.1, .bool r8.2.2.2.1, ci r8.2.2.2.2.1, ci r8.2.2.2.2.2.1, ci r8.2.2.2.2.2.2.1, .bool r8.2.2.2.2.2.2.2.1, .sl 7, .sl 8], .box [.sl 9, .sl 10, ci a3, ci a4, ci a5, .bool a6, ci a7, ci a8, ci a9, .bool a10, .sl 11, .sl 12], .box [.sl 13, .sl 14, ci r15.1, ci r15.2.1, ci r15.2.2.1, .bool r15.2.2.2.1, ci r15.2.2.2.2.1, ci r15.2.2.2.2.2.1, ci r15.2.2.2.2.2.2.1, .bool r15.2.2.2.2.2.2.2.1, .sl 15, .sl 16], .row tyIII r8.2.2.2.2.2.2.2.2.2.1, .row tyI r8.2.2.2.2.2.2.2.2.2.2.1, .row tyI r8.2.2.2.2.2.2.2.2.2.2.2.1, .row tyI r8.2.2.2.2.2.2.2.2.2.2.2.2, .row tyIII r12.1, .row tyI r12.2.1, .row tyI r12.2.2.1, .row tyI r12.2.2.2, .row tyIII r15.2.2.2.2.2.2.2.2.2.1, .row tyI r15.2.2.2.2.2.2.2.2.2.2.1, .row tyI r15.2.2.2.2.2.2.2.2.2.2.2.1, .row tyI r15.2.2.2.2.2.2.2.2.2.2.2.2]⟩) ?_ (fun A64 => ?_)
       ·
        refine WA.x1 2 (WO.uC false [] [.cells 0 0 12, .cells 3 0 12] (S_laws_toStream k a1 a2 a3 a4 a5 a6 a7 a8 a9 a10 a11 a12 r23 h25) rfl ?_ ?_) ?_
        exact WA.to 0 [] [] [0, 1, 2, 3, 4, 5, 6, 7, 8, 9, 10, 11, 12, 13, 14, 15, 16, 17, 18, 19, 20] [2, 3, 4, 6, 7, 8, 9, 10, 52, 54] A65 trivial (by kernel_rfl)
        all_goals kernel_rfl
       exact WA.to 2 [] [] [0, 1, 2, 3, 4, 5, 6, 7, 8, 9, 10, 11, 12, 13, 14, 15, 16] [2, 3, 4, 6, 7, 8, 9, 10, 52, 53] A64 trivial (by kernel_rfl)
       all_goals kernel_rfl
      all_goals kernel_rfl
     ·
      refine .uB [0, 1] [2, 3, 4, 5, 6, 7, 8] [] [] rfl trivial ?_ ?_
      obtain ⟨r19, h67, hF⟩ := bindE hF
      refine .uC true [] (S_laws_eqStream k r15.2.2.2.2.2.2.2.2.2.1 r15.2.2.2.2.2.2.2.2.2.2.1 r15.1 r15.2.1 r15.2.2.1 r15.2.2.2.1 r15.2.2.2.2.1 r15.2.2.2.2.2.1 r15.2.2.2.2.2.2.1 r15.2.2.2.2.2.2.2.1 r15.2.2.2.2.2.2.2.2.2.2.2.1 r15.2.2.2.2.2.2.2.2.2.2.2.2 r8.2.2.2.2.2.2.2.2.2.1 r8.2.2.2.2.2.2.2.2.2.2.1 r8.1 r8.2.1 r8.2.2.1 r8.2.2.2.1 r8.2.2.2.2.1 r8.2.2.2.2.2.1 r8.2.2.2.2.2.2.1 r8.2.2.2.2.2.2.2.1 r8.2.2.2.2.2.2.2.2.2.2.2.1 r8.2.2.2.2.2.2.2.2.2.2.2.2 r19 h67) rfl ?_ ?_
      refine .uN [3, 4] [5, 6, 7, 8] [] [] rfl trivial ?_ ?_
      rcases condE hF with ⟨he, hF⟩ | ⟨he, hF⟩
      ·
       refine WT.putB [47, 46] he ?_ ?_
       refine .vE [] (some ([0, 1, 2, 3, 4, 5, 6, 7, 8, 9, 10, 11, 12, 13, 14, 15, 16], [2, 3, 4, 6, 7, 8, 9, 10, 51])) [] trivial ?_ ?_
       exact .xS [.pick [0, 1, 2, 3, 4, 5, 6, 7, 8, 9, 10, 11, 12, 13, 14, 15, 16] [2, 3, 4, 6, 7, 8, 9, 10, 51]] (hJJ18 (true) hF) (by kernel_rfl)
       all_goals kernel_rfl
      ·
       refine WT.putB [47, 46] he ?_ ?_
       refine .vE [] (some ([0, 1, 2, 3, 4, 5, 6, 7, 8, 9, 10, 11, 12, 13, 14, 15, 16], [2, 3, 4, 6, 7, 8, 9, 10, 51])) [] trivial ?_ ?_
       exact .xS [.pick [0, 1, 2, 3, 4, 5, 6, 7, 8, 9, 10, 11, 12, 13, 14, 15, 16] [2, 3, 4, 6, 7, 8, 9, 10, 51]] (hJJ18 (r15.2.2.2.2.2.2.2.2.1 != r8.2.2.2.2.2.2.2.2.1) hF) (by kernel_rfl)
       all_goals kernel_rfl
      all_goals kernel_rfl
     all_goals kernel_rfl
    refine WA.lem (pr' := [.cells 1 0 3, .cells 3 0 12]) (fuel' := 6) (listed' := #[true, true, true, false, false, false, false, true, false, false]) (st' := ⟨[(2, pT 0 0), (3, pT 1 0), (4, bB false), (6, pT 2 0), (7, bB r8.2.2.2.2.2.2.2.2.1), (8, pT 3 0), (9, pT 12 0), (37, aG [.sl 8, .sl 9, ci a3, ci a4, ci a5, .bool a6, ci a7, ci a8, ci a9, .bool a10, .sl 10, .sl 11]), (39, aG [ci a13, ci a14, .str a15])], [.box [.vw none tyIII a1, .vw none tyI a2, ci a3, ci a4, ci a5, .bool a6, ci a7, ci a8, ci a9, .bool a10, .vw none tyI a11, .vw none tyI a12], .box [ci a13, ci a14, .str a15], .box [.sl 4, .sl 5, ci r8.1, ci r8.2.1, ci r8.2.2.1, .bool r8.2.2.2.1, ci r8.2.2.2.2.1, ci r8.2.2.2.2.2.1, ci r8.2.2.2.2.2.2.1, .bool r8.2.2.2.2.2.2.2.1, .sl 6, .sl 7], .box [.sl 8, .sl 9, ci a3, ci a4, ci a5, .bool a6, ci a7, ci a8, ci a9, .bool a10, .sl 10, .sl 11], .row tyIII r8.2.2.2.2.2.2.2.2.2.1, .row tyI r8.2.2.2.2.2.2.2.2.2.2.1, .row tyI r8.2.2.2.2.2.2.2.2.2.2.2.1, .row tyI r8.2.2.2.2.2.2.2.2.2.2.2.2, .row tyIII r12.1, .row tyI r12.2.1, .row tyI r12.2.2.1, .row tyI r12.2.2.2, .box [.nilsl, .nilsl, ci 0, ci 0, ci 0, .bool false, ci 0, ci 0, ci 0, .bool false, .nilsl, .nilsl]]⟩) ?_ (fun A72 => ?_)
    ·
     refine WA.x1 3 (WO.uC true [] [.cells 1 0 3, .cells 3 0 12] (S_impl_StreamDo k r12.1 r12.2.1 a3 a4 a5 a6 a7 a8 a9 a10 r12.2.2.1 r12.2.2.2 a13 a14 a15 r15 h17) rfl ?_ ?_) ?_
     exact WA.to 5 [] [] [0, 1, 2, 3, 4, 5, 6, 7, 8, 9, 10, 11, 12, 13, 14, 15, 16] [2, 3, 4, 6, 7, 8, 9, 10] A71 trivial (by kernel_rfl)
     all_goals kernel_rfl
    refine WA.lem (pr' := [.cells 1 0 3, .cells 3 0 12]) (fuel' := 7) (listed' := #[true, true, true, false, false, false, false, false, false, false]) (st' := ⟨[(2, pT 0 0), (3, pT 1 0), (4, bB false), (6, pT 2 0), (7, bB r8.2.2.2.2.2.2.2.2.1), (8, pT 3 0), (37, aG [.sl 8, .sl 9, ci a3, ci a4, ci a5, .bool a6, ci a7, ci a8, ci a9, .bool a10, .sl 10, .sl 11]), (39, aG [ci a13, ci a14, .str a15])], [.box [.vw none tyIII a1, .vw none tyI a2, ci a3, ci a4, ci a5, .bool a6, ci a7, ci a8, ci a9, .bool a10, .vw none tyI a11, .vw none tyI a12], .box [ci a13, ci a14, .str a15], .box [.sl 4, .sl 5, ci r8.1, ci r8.2.1, ci r8.2.2.1, .bool r8.2.2.2.1, ci r8.2.2.2.2.1, ci r8.2.2.2.2.2.1, ci r8.2.2.2.2.2.2.1, .bool r8.2.2.2.2.2.2.2.1, .sl 6, .sl 7], .box [.sl 8, .sl 9, ci a3, ci a4, ci a5, .bool a6, ci a7, ci a8, ci a9, .bool a10, .sl 10, .sl 11], .row tyIII r8.2.2.2.2.2.2.2.2.2.1, .row tyI r8.2.2.2.2.2.2.2.2.2.2.1, .row tyI r8.2.2.2.2.2.2.2.2.2.2.2.1, .row tyI r8.2.2.2.2.2.2.2.2.2.2.2.2, .row tyIII r12.1, .row tyI r12.2.1, .row tyI r12.2.2.1, .row tyI r12.2.2.2]⟩) ?_ (fun A69 => ?_)
    ·
     refine WA.xf [3, 7] (by simp) (allW2 ?_ ?_) ?_
     ·
      refine WO.uC true [] [.cells 1 0 3, .cells 3 0 12] (S_impl_StreamDo k r12.1 r12.2.1 a3 a4 a5 a6 a7 a8 a9 a10 r12.2.2.1 r12.2.2.2 a13 a14 a15 r15 h17) rfl ?_ ?_
      exact WA.to 6 [] [] [0, 1, 2, 3, 4, 5, 6, 7, 8, 9, 10, 11, 16, 12, 13, 14, 15] [2, 3, 4, 6, 7, 8, 9, 10] A71 trivial (by kernel_rfl)
      all_goals kernel_rfl
     ·
      refine WO.uM [] [] trivial ?_ ?_
      exact WA.to 0 [] [] [0, 1, 2, 3, 4, 5, 6, 7, 8, 9, 10, 11, 12] [2, 3, 4, 6, 7, 8, 9, 37, 39] A72 trivial (by kernel_rfl)
      all_goals kernel_rfl
     kernel_rfl
    refine WA.lem (pr' := [.cells 1 0 3, .cells 3 0 12]) (fuel' := 7) (listed' := #[true, true, false, false, false, false, false, true, false, false]) (st' := ⟨[(2, pT 0 0), (3, pT 1 0), (4, bB false), (6, pT 2 0), (7, bB r8.2.2.2.2.2.2.2.2.1), (8, pT 3 0), (9, pT 12 0), (37, aG [.sl 8, .sl 9, ci a3, ci a4, ci a5, .bool a6, ci a7, ci a8, ci a9, .bool a10, .sl 10, .sl 11]), (38, aG [ci a13, ci a14, .str a15])], [.box [.vw none tyIII a1, .vw none tyI a2, ci a3, ci a4, ci a5, .bool a6, ci a7, ci a8, ci a9, .bool a10, .vw none tyI a11, .vw none tyI a12], .box [ci a13, ci a14, .str a15], .box [.sl 4, .sl 5, ci r8.1, ci r8.2.1, ci r8.2.2.1, .bool r8.2.2.2.1, ci r8.2.2.2.2.1, ci r8.2.2.2.2.2.1, ci r8.2.2.2.2.2.2.1, .bool r8.2.2.2.2.2.2.2.1, .sl 6, .sl 7], .box [.sl 8, .sl 9, ci a3, ci a4, ci a5, .bool a6, ci a7, ci a8, ci a9, .bool a10, .sl 10, .sl 11], .row tyIII r8.2.2.2.2.2.2.2.2.2.1, .row tyI r8.2.2.2.2.2.2.2.2.2.2.1, .row tyI r8.2.2.2.2.2.2.2.2.2.2.2.1, .row tyI r8.2.2.2.2.2.2.2.2.2.2.2.2, .row tyIII r12.1, .row tyI r12.2.1, .row tyI r12.2.2.1, .row tyI r12.2.2.2, .box [.nilsl, .nilsl, ci 0, ci 0, ci 0, .bool false, ci 0, ci 0, ci 0, .bool false, .nilsl, .nilsl]]⟩) ?_ (fun A70 => ?_)
    ·
     refine WA.x1 2 (WO.uC false [] [.cells 1 0 3, .cells 3 0 12] (S_laws_toAction k a13 a14 a15 r14 h16) rfl ?_ ?_) ?_
     exact WA.to 0 [] [] [0, 1, 2, 3, 4, 5, 6, 7, 8, 9, 10, 11, 12] [2, 3, 4, 6, 7, 8, 9, 37, 39] A72 trivial (by kernel_rfl)
     all_goals kernel_rfl
    refine WA.lem (pr' := [.cells 1 0 3, .cells 3 0 12]) (fuel' := 8) (listed' := #[true, true, false, false, false, false, false, false, false, false]) (st' := ⟨[(2, pT 0 0), (3, pT 1 0), (4, bB false), (6, pT 2 0), (7, bB r8.2.2.2.2.2.2.2.2.1), (8, pT 3 0), (37, aG [.sl 8, .sl 9, ci a3, ci a4, ci a5, .bool a6, ci a7, ci a8, ci a9, .bool a10, .sl 10, .sl 11]), (38, aG [ci a13, ci a14, .str a15])], [.box [.vw none tyIII a1, .vw none tyI a2, ci a3, ci a4, ci a5, .bool a6, ci a7, ci a8, ci a9, .bool a10, .vw none tyI a11, .vw none tyI a12], .box [ci a13, ci a14, .str a15], .box [.sl 4, .sl 5, ci r8.1, ci r8.2.1, ci r8.2.2.1, .bool r8.2.2.2.1, ci r8.2.2.2.2.1, ci r8.2.2.2.2.2.1, ci r8.2.2.2.2.2.2.1, .bool r8.2.2.2.2.2.2.2.1, .sl 6, .sl 7], .box [.sl 8, .sl 9, ci a3, ci a4, ci a5, .bool a6, ci a7, ci a8, ci a9, .bool a10, .sl 10, .sl 11], .row tyIII r8.2.2.2.2.2.2.2.2.2.1, .row tyI r8.2.2.2.2.2.2.2.2.2.2.1, .row tyI r8.2.2.2.2.2.2.2.2.2.2.2.1, .row tyI r8.2.2.2.2.2.2.2.2.2.2.2.2, .row tyIII r12.1, .row tyI r12.2.1, .row tyI r12.2.2.1, .row tyI r12.2.2.2]⟩) ?_ (fun A68 => ?_)
    ·
     refine WA.xf [2, 7] (by simp) (allW2 ?_ ?_) ?_
     ·
      refine WO.uC false [] [.cells 1 0 3, .cells 3 0 12] (S_laws_toAction k a13 a14 a15 r14 h16) rfl ?_ ?_
      exact WA.to 0 [] [] [0, 1, 2, 3, 4, 5, 6, 7, 8, 9, 10, 11] [2, 3, 4, 6, 7, 8, 37, 39] A69 trivial (by kernel_rfl)
      all_goals kernel_rfl
     ·
      refine WO.uM [] [] trivial ?_ ?_
      exact WA.to 0 [] [] [0, 1, 2, 3, 4, 5, 6, 7, 8, 9, 10, 11, 12] [2, 3, 4, 6, 7, 8, 9, 37, 38] A70 trivial (by kernel_rfl)
      all_goals kernel_rfl
     kernel_rfl
    exact WA.to 2 [] [] [0, 1, 2, 3, 4, 5, 6, 7, 8, 9, 10, 11] [2, 3, 4, 6, 7, 8, 37, 38] A68 trivial (by kernel_rfl)
    all_goals kernel_rfl
   refine WA.lem (pr' := [.cells 0 0 12, .cells 1 0 3]) (fuel' := 6) (listed' := #[true, true, true, true, false, false, false, false, true, false, false]) (st' := ⟨[(2, pT 0 0), (3, pT 1 0), (4, bB false), (6, pT 2 0), (28, aG [.sl 3, .sl 4, ci a3, ci a4, ci a5, .bool a6, ci a7, ci a8, ci a9, .bool a10, .sl 5, .sl 6]), (30, aG [ci a13, ci a14, .str a15])], [.box [.vw none tyIII a1, .vw none tyI a2, ci a3, ci a4, ci a5, .bool a6, ci a7, ci a8, ci a9, .bool a10, .vw none tyI a11, .vw none tyI a12], .box [ci a13, ci a14, .str a15], .box [.nilsl, .nilsl, ci 0, ci 0, ci 0, .bool false, ci 0, ci 0, ci 0, .bool false, .nilsl, .nilsl], .row tyIII r6.1, .row tyI r6.2.1, .row tyI r6.2.2.1, .row tyI r6.2.2.2]⟩) ?_ (fun A80 => ?_)
   ·
    refine WA.x1 4 (WO.uC true [] [.cells 0 0 12, .cells 1 0 3] (S_spec_StreamDo k r6.1 r6.2.1 a3 a4 a5 a6 a7 a8 a9 a10 r6.2.2.1 r6.2.2.2 a13 a14 a15 r8 h11) rfl ?_ ?_) ?_
    exact WA.to 5 [] [] [0, 1, 2, 7, 8, 9, 10] [2, 3, 4, 6, 7] A79 trivial (by kernel_rfl)
    all_goals kernel_rfl
   refine WA.lem (pr' := [.cells 0 0 12, .cells 1 0 3]) (fuel' := 7) (listed' := #[true, true, true, true, false, false, false, false, false, false, false]) (st' := ⟨[(2, pT 0 0), (3, pT 1 0), (4, bB false), (28, aG [.sl 2, .sl 3, ci a3, ci a4, ci a5, .bool a6, ci a7, ci a8, ci a9, .bool a10, .sl 4, .sl 5]), (30, aG [ci a13, ci a14, .str a15])], [.box [.vw none tyIII a1, .vw none tyI a2, ci a3, ci a4, ci a5, .bool a6, ci a7, ci a8, ci a9, .bool a10, .vw none tyI a11, .vw none tyI a12], .box [ci a13, ci a14, .str a15], .row tyIII r6.1, .row tyI r6.2.1, .row tyI r6.2.2.1, .row tyI r6.2.2.2]⟩) ?_ (fun A77 => ?_)
   ·
    refine WA.xf [4, 8] (by simp) (allW2 ?_ ?_) ?_
    ·
     refine WO.uC true [] [.cells 0 0 12, .cells 1 0 3] (S_spec_StreamDo k r6.1 r6.2.1 a3 a4 a5 a6 a7 a8 a9 a10 r6.2.2.1 r6.2.2.2 a13 a14 a15 r8 h11) rfl ?_ ?_
     exact WA.to 6 [] [] [0, 1, 10, 6, 7, 8, 9] [2, 3, 4, 6, 7] A79 trivial (by kernel_rfl)
     all_goals kernel_rfl
    ·
     refine WO.uM [] [] trivial ?_ ?_
     exact WA.to 0 [] [] [0, 1, 6, 2, 3, 4, 5] [2, 3, 4, 6, 28, 30] A80 trivial (by kernel_rfl)
     all_goals kernel_rfl
    kernel_rfl
   refine WA.lem (pr' := [.cells 0 0 12, .cells 1 0 3]) (fuel' := 7) (listed' := #[true, true, true, false, false, false, false, false, true, false, false]) (st' := ⟨[(2, pT 0 0), (3, pT 1 0), (4, bB false), (6, pT 2 0), (28, aG [.sl 3, .sl 4, ci a3, ci a4, ci a5, .bool a6, ci a7, ci a8, ci a9, .bool a10, .sl 5, .sl 6]), (29, aG [ci a13, ci a14, .str a15])], [.box [.vw none tyIII a1, .vw none tyI a2, ci a3, ci a4, ci a5, .bool a6, ci a7, ci a8, ci a9, .bool a10, .vw none tyI a11, .vw none tyI a12], .box [ci a13, ci a14, .str a15], .box [.nilsl, .nilsl, ci 0, ci 0, ci 0, .bool false, ci 0, ci 0, ci 0, .bool false, .nilsl, .nilsl], .row tyIII r6.1, .row tyI r6.2.1, .row tyI r6.2.2.1, .row tyI r6.2.2.2]⟩) ?_ (fun A78 => ?_)
   ·
    refine WA.x1 3 (WO.uC false [] [.cells 0 0 12, .cells 1 0 3] (S_laws_toAction k a13 a14 a15 r7 h10) rfl ?_ ?_) ?_
    exact WA.to 0 [] [] [0, 1, 2, 3, 4, 5, 6] [2, 3, 4, 6, 28, 30] A80 trivial (by kernel_rfl)
    all_goals kernel_rfl
   refine WA.lem (pr' := [.cells 0 0 12, .cells 1 0 3]) (fuel' := 8) (listed' := #[true, true, true, false, false, false, false, false, false, false, false]) (st' := ⟨[(2, pT 0 0), (3, pT 1 0), (4, bB false), (28, aG [.sl 2, .sl 3, ci a3, ci a4, ci a5, .bool a6, ci a7, ci a8, ci a9, .bool a10, .sl 4, .sl 5]), (29, aG [ci a13, ci a14, .str a15])], [.box [.vw none tyIII a1, .vw none tyI a2, ci a3, ci a4, ci a5, .bool a6, ci a7, ci a8, ci a9, .bool a10, .vw none tyI a11, .vw none tyI a12], .box [ci a13, ci a14, .str a15], .row tyIII r6.1, .row tyI r6.2.1, .row tyI r6.2.2.1, .row tyI r6.2.2.2]⟩) ?_ (fun A75 => ?_)
   ·
    refine WA.xf [3, 8] (by simp) (allW2 ?_ ?_) ?_
    ·
     refine WO.uC false [] [.cells 0 0 12, .cells 1 0 3] (S_laws_toAction k a13 a14 a15 r7 h10) rfl ?_ ?_
     exact WA.to 0 [] [] [0, 1, 2, 3, 4, 5] [2, 3, 4, 28, 30] A77 trivial (by kernel_rfl)
     all_goals kernel_rfl
    ·
     refine WO.uM [] [] trivial ?_ ?_
     exact WA.to 0 [] [] [0, 1, 6, 2, 3, 4, 5] [2, 3, 4, 6, 28, 29] A78 trivial (by kernel_rfl)
     all_goals kernel_rfl
    kernel_rfl
   refine WA.lem (pr' := [.cells 0 0 12, .cells 1 0 3]) (fuel' := 8) (listed' := #[true, false, true, false, false, false, false, false, true, false, false]) (st' := ⟨[(2, pT 0 0), (3, pT 1 0), (4, bB false), (6, pT 2 0), (27, aG [.vw none tyIII a1, .vw none tyI a2, ci a3, ci a4, ci a5, .bool a6, ci a7, ci a8, ci a9, .bool a10, .vw none tyI a11, .vw none tyI a12]), (29, aG [ci a13, ci a14, .str a15])], [.box [.vw none tyIII a1, .vw none tyI a2, ci a3, ci a4, ci a5, .bool a6, ci a7, ci a8, ci a9, .bool a10, .vw none tyI a11, .vw none tyI a12], .box [ci a13, ci a14, .str a15], .box [.nilsl, .nilsl, ci 0, ci 0, ci 0, .bool false, ci 0, ci 0, ci 0, .bool false, .nilsl, .nilsl]]⟩) ?_ (fun A76 => ?_)
   ·
    refine WA.x1 1 (WO.uC false [] [.cells 0 0 12, .cells 1 0 3] (S_laws_toStream k a1 a2 a3 a4 a5 a6 a7 a8 a9 a10 a11 a12 r6 h9) rfl ?_ ?_) ?_
    exact WA.to 0 [] [] [0, 1, 2, 3, 4, 5, 6] [2, 3, 4, 6, 28, 29] A78 trivial (by kernel_rfl)
    all_goals kernel_rfl
   refine WA.lem (pr' := [.cells 0 0 12, .cells 1 0 3]) (fuel' := 9) (listed' := #[true, false, true, false, false, false, false, false, false, false, false]) (st' := ⟨[(2, pT 0 0), (3, pT 1 0), (4, bB false), (27, aG [.vw none tyIII a1, .vw none tyI a2, ci a3, ci a4, ci a5, .bool a6, ci a7, ci a8, ci a9, .bool a10, .vw none tyI a11, .vw none tyI a12]), (29, aG [ci a13, ci a14, .str a15])], [.box [.vw none tyIII a1, .vw none tyI a2, ci a3, ci a4, ci a5, .bool a6, ci a7, ci a8, ci a9, .bool a10, .vw none tyI a11, .vw none tyI a12], .box [ci a13, ci a14, .str a15]]⟩) ?_ (fun A74 => ?_)
   ·
    refine WA.xf [1, 8] (by simp) (allW2 ?_ ?_) ?_
    ·
     refine WO.uC false [] [.cells 0 0 12, .cells 1 0 3] (S_laws_toStream k a1 a2 a3 a4 a5 a6 a7 a8 a9 a10 a11 a12 r6 h9) rfl ?_ ?_
     exact WA.to 0 [] [] [0, 1, 2, 3, 4, 5] [2, 3, 4, 28, 29] A75 trivial (by kernel_rfl)
     all_goals kernel_rfl
    ·
     refine WO.uM [] [] trivial ?_ ?_
     exact WA.to 0 [] [] [0, 1, 2] [2, 3, 4, 6, 27, 29] A76 trivial (by kernel_rfl)
     all_goals kernel_rfl
    kernel_rfl
   exact WA.to 2 [] [] [0, 1] [2, 3, 4, 27, 29] A74 trivial (by kernel_rfl)
   all_goals kernel_rfl
  all_goals kernel_rfl
 all_goals kernel_rfl

end Go.Proofs.YtmbbapeiikifgaaGreatDoor
