/- The functions do what they compute. -/
import Derived.Test.YtmbbapeiikifgaaGreatDoorSlVu
import Derived.Test.YtmbbapeiikifgaaGreatDoorSlLj
import Derived.Test.YtmbbapeiikifgaaGreatDoorShX
import Derived.Test.YtmbbapeiikifgaaGreatDoorProg
import Derived.Test.YtmbbapeiikifgaaGreatDoorPgF
import Derived.KernelRfl
import Derived.Test.YtmbbapeiikifgaaGreatDoorPgS2
set_option maxRecDepth 100000
set_option linter.all false
namespace Go.Proofs.YtmbbapeiikifgaaGreatDoor
open Go Go.Shelf
theorem S_impl_StreamDo (k : Nat) (a1 : (List (Int × (Int × Int)))) (a2 : (List Int)) (a3 : Int) (a4 : Int) (a5 : Int) (a6 : Bool) (a7 : Int) (a8 : Int) (a9 : Int) (a10 : Bool) (a11 : (List Int)) (a12 : (List Int)) (a13 : Int) (a14 : Int) (a15 : ByteArray) (r : Int × Int × Int × Bool × Int × Int × Int × Bool × Bool × (List (Int × (Int × Int))) × (List Int) × (List Int) × (List Int)) (hF : F_impl_StreamDo k a1 a2 a3 a4 a5 a6 a7 a8 a9 a10 a11 a12 a13 a14 a15 = some r) : Spec Tryz.prog 8 [aG [.vw none tyIII a1, .vw none tyI a2, ci a3, ci a4, ci a5, .bool a6, ci a7, ci a8, ci a9, .bool a10, .vw none tyI a11, .vw none tyI a12], aG [ci a13, ci a14, .str a15]] [] (.tup [.agg [.sl 0, .sl 1, ci r.1, ci r.2.1, ci r.2.2.1, .bool r.2.2.2.1, ci r.2.2.2.2.1, ci r.2.2.2.2.2.1, ci r.2.2.2.2.2.2.1, .bool r.2.2.2.2.2.2.2.1, .sl 2, .sl 3], .c (.bool r.2.2.2.2.2.2.2.2.1)]) [.row tyIII r.2.2.2.2.2.2.2.2.2.1, .row tyI r.2.2.2.2.2.2.2.2.2.2.1, .row tyI r.2.2.2.2.2.2.2.2.2.2.2.1, .row tyI r.2.2.2.2.2.2.2.2.2.2.2.2] := by
 refine Spec.of 0 23 Tryz.func8 rfl rfl (Nat.le_of_ble_eq_true rfl) rfl fun w0 S0 Z0 M0 R0 hE => ?_
 unfold F_impl_StreamDo at hF
 refine .seq ?_
 refine .xW [] (some ([0, 1, 2], [2, 3, 4, 5])) ⟨[(2, pT 0 0), (3, pT 1 0), (4, pT 2 0), (5, bB false)], [.box [.vw none tyIII a1, .vw none tyI a2, ci a3, ci a4, ci a5, .bool a6, ci a7, ci a8, ci a9, .bool a10, .vw none tyI a11, .vw none tyI a12], .box [ci a13, ci a14, .str a15], .box [.nilsl, .nilsl, ci 0, ci 0, ci 0, .bool false, ci 0, ci 0, ci 0, .bool false, .nilsl, .nilsl]]⟩ [] trivial ?_ ?_
 refine .seq ?_
 refine .seq ?_
 refine .uB [0] [1, 2] [] [] rfl trivial ?_ ?_
 obtain ⟨r1, h14, hF⟩ := bindE hF
 refine .uC false [] (S_impl_StreamOk k a1 a2 a3 a4 a5 a6 a7 a8 a9 a10 a11 a12 r1 h14) rfl ?_ ?_
 refine .xE [] (some ([0, 1, 2], [2, 3, 4, 5, 9])) ⟨[(2, pT 0 0), (3, pT 1 0), (4, pT 2 0), (5, bB false), (9, bB (!r1))], [.box [.vw none tyIII a1, .vw none tyI a2, ci a3, ci a4, ci a5, .bool a6, ci a7, ci a8, ci a9, .bool a10, .vw none tyI a11, .vw none tyI a12], .box [ci a13, ci a14, .str a15], .box [.nilsl, .nilsl, ci 0, ci 0, ci 0, .bool false, ci 0, ci 0, ci 0, .bool false, .nilsl, .nilsl]]⟩ [] trivial ?_ ?_
 rcases condE hF with ⟨he, hF⟩ | ⟨he, hF⟩
 ·
  refine .xT he ?_ ?_
  refine .seq ?_
  refine .vW [] (some ([0, 1, 2], [2, 3, 4, 5])) [] trivial ?_ ?_
  cases hF
  exact .xR hE [.nrb 2 0 tyIII, .nrb 2 1 tyI, .nrb 2 10 tyI, .nrb 2 11 tyI] [3, 4, 5, 6] (by kernel_rfl)
  all_goals kernel_rfl
 ·
  refine .xF he ?_ ?_
  refine .skip ?_
  refine .seq ?_
  refine .uB [0] [1, 2, 3] [] [] rfl trivial ?_ ?_
  obtain ⟨r3, h13, hF⟩ := bindE hF
  refine .uC false [] (S_impl_copyStream k a1 a2 a3 a4 a5 a6 a7 a8 a9 a10 a11 a12 r3 h13) rfl ?_ ?_
  refine .vE [] (some ([0, 1, 2, 7, 3, 4, 5, 6], [2, 3, 4, 5, 6])) [] trivial ?_ ?_
  refine .seq ?_
  refine .seq ?_
  refine WT.join (f := fun v7 => F_impl_StreamDo_J4 k a1 a2 a3 a4 a5 a6 a7 a8 a9 a10 a11 a12 v7) (r := r) (S := fun v7 => ⟨[(2, pT 0 0), (4, pT 1 0), (5, bB false), (6, pT 2 0), (19, bB v7.1)], [.box [.vw none tyIII a1, .vw none tyI a2, ci a3, ci a4, ci a5, .bool a6, ci a7, ci a8, ci a9, .bool a10, .vw none tyI a11, .vw none tyI a12], .box [.nilsl, .nilsl, ci 0, ci 0, ci 0, .bool false, ci 0, ci 0, ci 0, .bool false, .nilsl, .nilsl], .box [.sl 3, .sl 4, ci v7.2.1, ci v7.2.2.1, ci v7.2.2.2.1, .bool v7.2.2.2.2.1, ci v7.2.2.2.2.2.1, ci v7.2.2.2.2.2.2.1, ci v7.2.2.2.2.2.2.2.1, .bool v7.2.2.2.2.2.2.2.2.1, .sl 5, .sl 6], .row tyIII v7.2.2.2.2.2.2.2.2.2.1, .row tyI v7.2.2.2.2.2.2.2.2.2.2.1, .row tyI v7.2.2.2.2.2.2.2.2.2.2.2.1, .row tyI v7.2.2.2.2.2.2.2.2.2.2.2.2]⟩) (fun v7 hF => ?_) (fun hJJ4 => ?_)
  ·
   unfold F_impl_StreamDo_J4 at hF
   rcases condE hF with ⟨he, hF⟩ | ⟨he, hF⟩
   ·
    refine .xT he ?_ ?_
    refine .seq ?_
    refine .uB [0] [1, 2, 3] [] [] rfl trivial ?_ ?_
    obtain ⟨r9, h10, hF⟩ := bindE hF
    refine .uC false [] (S_impl_copyStream k a1 a2 a3 a4 a5 a6 a7 a8 a9 a10 a11 a12 r9 h10) rfl ?_ ?_
    refine .vE [] (some ([1, 2, 7, 8, 9, 10, 3, 4, 5, 6], [4, 5, 6])) [] trivial ?_ ?_
    cases hF
    exact .xR hE [] [2, 3, 4, 5] (by kernel_rfl)
    all_goals kernel_rfl
   ·
    refine .xF he ?_ ?_
    refine .skip ?_
    refine .seq ?_
    refine .vW [] (some ([1, 3, 4, 5, 6], [4, 5])) [] trivial ?_ ?_
    cases hF
    exact .xR hE [] [1, 2, 3, 4] (by kernel_rfl)
    all_goals kernel_rfl
   all_goals kernel_rfl
  ·
   refine .uB [0] [1, 2, 3, 4, 5, 6] [] [] rfl trivial ?_ ?_
   obtain ⟨r5, h12, hF⟩ := bindE hF
   refine .uC false [.whole 3, .whole 4, .whole 5, .whole 6, .whole 7] (S_impl_Stream_do_e590 k a13 a14 a15 a3 a4 a5 a6 a7 a8 a9 a10 r3.1 r3.2.1 r3.2.2.1 r3.2.2.2 r5 h12) rfl ?_ ?_
   refine .uN [2, 3] [4, 5, 6] [] [] rfl trivial ?_ ?_
   rcases condE hF with ⟨he, hF⟩ | ⟨he, hF⟩
   ·
    refine WT.putB [16, 15] he ?_ ?_
    refine .vE [] (some ([0, 2, 3, 8, 9, 10, 11], [2, 4, 5, 6, 19])) [] trivial ?_ ?_
    exact .xS [.pick [0, 1, 2, 3, 4, 5, 6] [2, 4, 5, 6, 19]] (hJJ4 (true, r5.2.1, r5.2.2.1, r5.2.2.2.1, r5.2.2.2.2.1, r5.2.2.2.2.2.1, r5.2.2.2.2.2.2.1, r5.2.2.2.2.2.2.2.1, r5.2.2.2.2.2.2.2.2.1, r5.2.2.2.2.2.2.2.2.2.1, r5.2.2.2.2.2.2.2.2.2.2.1, r5.2.2.2.2.2.2.2.2.2.2.2.1, r5.2.2.2.2.2.2.2.2.2.2.2.2) hF) (by kernel_rfl)
    all_goals kernel_rfl
   ·
    refine WT.putB [16, 15] he ?_ ?_
    obtain ⟨r6, h11, hF⟩ := bindE hF
    refine .uC false [.whole 3, .whole 8, .whole 9, .whole 10, .whole 11] (S_impl_Stream_fits_4594 k r5.2.1 r5.2.2.1 r5.2.2.2.1 r5.2.2.2.2.1 r5.2.2.2.2.2.1 r5.2.2.2.2.2.2.1 r5.2.2.2.2.2.2.2.1 r5.2.2.2.2.2.2.2.2.1 r5.2.2.2.2.2.2.2.2.2.1 r5.2.2.2.2.2.2.2.2.2.2.1 r5.2.2.2.2.2.2.2.2.2.2.2.1 r5.2.2.2.2.2.2.2.2.2.2.2.2 r6 h11) rfl ?_ ?_
    refine .vE [] (some ([0, 2, 3, 8, 9, 10, 11], [2, 4, 5, 6, 19])) [] trivial ?_ ?_
    exact .xS [.pick [0, 1, 2, 3, 4, 5, 6] [2, 4, 5, 6, 19]] (hJJ4 (!r6, r5.2.1, r5.2.2.1, r5.2.2.2.1, r5.2.2.2.2.1, r5.2.2.2.2.2.1, r5.2.2.2.2.2.2.1, r5.2.2.2.2.2.2.2.1, r5.2.2.2.2.2.2.2.2.1, r5.2.2.2.2.2.2.2.2.2.1, r5.2.2.2.2.2.2.2.2.2.2.1, r5.2.2.2.2.2.2.2.2.2.2.2.1, r5.2.2.2.2.2.2.2.2.2.2.2.2) hF) (by kernel_rfl)
    all_goals kernel_rfl
   all_goals kernel_rfl
  all_goals kernel_rfl
 all_goals kernel_rfl
theorem S_impl_StreamRun (k : Nat) (a1 : (List (Int × (Int × Int)))) (a2 : (List Int)) (a3 : Int) (a4 : Int) (a5 : Int) (a6 : Bool) (a7 : Int) (a8 : Int) (a9 : Int) (a10 : Bool) (a11 : (List Int)) (a12 : (List Int)) (a13 : (List (Int × (Int × ByteArray)))) (r : Int × Int × Int × Bool × Int × Int × Int × Bool × Int × (List (Int × (Int × Int))) × (List Int) × (List Int) × (List Int)) (hF : F_impl_StreamRun k a1 a2 a3 a4 a5 a6 a7 a8 a9 a10 a11 a12 a13 = some r) : Spec Tryz.prog 15 [aG [.vw none tyIII a1, .vw none tyI a2, ci a3, ci a4, ci a5, .bool a6, ci a7, ci a8, ci a9, .bool a10, .vw none tyI a11, .vw none tyI a12], vV none tyIIS a13] [] (.tup [.agg [.sl 0, .sl 1, ci r.1, ci r.2.1, ci r.2.2.1, .bool r.2.2.2.1, ci r.2.2.2.2.1, ci r.2.2.2.2.2.1, ci r.2.2.2.2.2.2.1, .bool r.2.2.2.2.2.2.2.1, .sl 2, .sl 3], .c (ci r.2.2.2.2.2.2.2.2.1)]) [.row tyIII r.2.2.2.2.2.2.2.2.2.1, .row tyI r.2.2.2.2.2.2.2.2.2.2.1, .row tyI r.2.2.2.2.2.2.2.2.2.2.2.1, .row tyI r.2.2.2.2.2.2.2.2.2.2.2.2] := by
 refine Spec.of 0 42 Tryz.func15 rfl rfl (Nat.le_of_ble_eq_true rfl) rfl fun w0 S0 Z0 M0 R0 hE => ?_
 unfold F_impl_StreamRun at hF
 refine .seq ?_
 refine .xW [] (some ([0, 1], [1, 2, 4, 5])) ⟨[(1, vV none tyIIS a13), (2, pT 0 0), (4, pT 1 0), (5, iI 0)], [.box [.vw none tyIII a1, .vw none tyI a2, ci a3, ci a4, ci a5, .bool a6, ci a7, ci a8, ci a9, .bool a10, .vw none tyI a11, .vw none tyI a12], .box [.nilsl, .nilsl, ci 0, ci 0, ci 0, .bool false, ci 0, ci 0, ci 0, .bool false, .nilsl, .nilsl]]⟩ [] trivial ?_ ?_
 refine .seq ?_
 refine .uB [0] [1, 2, 3] [] [] rfl trivial ?_ ?_
 obtain ⟨r1, h28, hF⟩ := bindE hF
 refine .uC false [] (S_impl_copyStream k a1 a2 a3 a4 a5 a6 a7 a8 a9 a10 a11 a12 r1 h28) rfl ?_ ?_
 refine .vE [] (some ([0, 1, 6, 2, 3, 4, 5], [1, 2, 4, 5, 6])) [] trivial ?_ ?_
 refine .seq ?_
 refine .seq ?_
 refine WT.join (f := fun v4 => F_impl_StreamRun_J2 k r1 a3 a4 a5 a6 a7 a8 a9 a10 a13 v4) (r := r) (S := fun v4 => ⟨[(1, vV none tyIIS a13), (4, pT 0 0), (5, iI 0), (6, pT 1 0), (21, bB v4)], [.box [.nilsl, .nilsl, ci 0, ci 0, ci 0, .bool false, ci 0, ci 0, ci 0, .bool false, .nilsl, .nilsl], .box [.sl 2, .sl 3, ci a3, ci a4, ci a5, .bool a6, ci a7, ci a8, ci a9, .bool a10, .sl 4, .sl 5], .row tyIII r1.1, .row tyI r1.2.1, .row tyI r1.2.2.1, .row tyI r1.2.2.2]⟩) (fun v4 hF => ?_) (fun hJJ2 => ?_)
 ·
  unfold F_impl_StreamRun_J2 at hF
  rcases condE hF with ⟨he, hF⟩ | ⟨he, hF⟩
  ·
   refine .xT he ?_ ?_
   refine .seq ?_
   refine .vW [] (some ([0, 1, 2, 3, 4, 5], [1, 4, 5, 6])) [] trivial ?_ ?_
   cases hF
   exact .xR hE [] [2, 3, 4, 5] (by kernel_rfl)
   all_goals kernel_rfl
  ·
   refine .xF he ?_ ?_
   refine .skip ?_
   refine .seq ?_
   refine .vW [] (some ([0, 1, 2, 3, 4, 5], [1, 4, 5, 6, 7])) [] trivial ?_ ?_
   refine .seq ?_
   refine .seq ?_
   refine .xW [] (some ([0, 1, 2, 3, 4, 5], [4, 5, 6, 7, 23, 24, 25])) ⟨[(4, pT 0 0), (5, iI 0), (6, pT 1 0), (7, iI 0), (23, vV none tyIIS a13), (24, iI (a13.length : Int)), (25, iI 0)], [.box [.nilsl, .nilsl, ci 0, ci 0, ci 0, .bool false, ci 0, ci 0, ci 0, .bool false, .nilsl, .nilsl], .box [.sl 2, .sl 3, ci a3, ci a4, ci a5, .bool a6, ci a7, ci a8, ci a9, .bool a10, .sl 4, .sl 5], .row tyIII r1.1, .row tyI r1.2.1, .row tyI r1.2.2.1, .row tyI r1.2.2.2]⟩ [] trivial ?_ ?_
   refine WT.join (f := fun v22 => F_impl_StreamRun_J6 k v22) (r := r) (S := fun v22 => ⟨[(4, pT 0 0), (5, iI 0), (6, pT 1 0), (7, iI v22.1)], [.box [.nilsl, .nilsl, ci 0, ci 0, ci 0, .bool false, ci 0, ci 0, ci 0, .bool false, .nilsl, .nilsl], .box [.sl 2, .sl 3, ci v22.2.1, ci v22.2.2.1, ci v22.2.2.2.1, .bool v22.2.2.2.2.1, ci v22.2.2.2.2.2.1, ci v22.2.2.2.2.2.2.1, ci v22.2.2.2.2.2.2.2.1, .bool v22.2.2.2.2.2.2.2.2.1, .sl 4, .sl 5], .row tyIII v22.2.2.2.2.2.2.2.2.2.1, .row tyI v22.2.2.2.2.2.2.2.2.2.2.1, .row tyI v22.2.2.2.2.2.2.2.2.2.2.2.1, .row tyI v22.2.2.2.2.2.2.2.2.2.2.2.2]⟩) (fun v22 hF => ?_) (fun hJJ6 => ?_)
   ·
    unfold F_impl_StreamRun_J6 at hF
    refine .seq ?_
    refine .vW [] (some ([0, 2, 3, 4, 5], [4, 5])) [] trivial ?_ ?_
    cases hF
    exact .xR hE [] [1, 2, 3, 4] (by kernel_rfl)
    all_goals kernel_rfl
   ·
    refine .block ?_
    refine WT.xL (fun s15 => ⟨[(4, pT 0 0), (5, iI 0), (6, pT 1 0), (7, iI s15.1), (23, vV none tyIIS a13), (24, iI (a13.length : Int)), (25, iI s15.2.1)], [.box [.nilsl, .nilsl, ci 0, ci 0, ci 0, .bool false, ci 0, ci 0, ci 0, .bool false, .nilsl, .nilsl], .box [.sl 2, .sl 3, ci s15.2.2.1, ci s15.2.2.2.1, ci s15.2.2.2.2.1, .bool s15.2.2.2.2.2.1, ci s15.2.2.2.2.2.2.1, ci s15.2.2.2.2.2.2.2.1, ci s15.2.2.2.2.2.2.2.2.1, .bool s15.2.2.2.2.2.2.2.2.2.1, .sl 4, .sl 5], .row tyIII s15.2.2.2.2.2.2.2.2.2.2.1, .row tyI s15.2.2.2.2.2.2.2.2.2.2.2.1, .row tyI s15.2.2.2.2.2.2.2.2.2.2.2.2.1, .row tyI s15.2.2.2.2.2.2.2.2.2.2.2.2.2]⟩) (l := fun n x => F_impl_StreamRun_L7 k a13 (F_impl_StreamRun_J6 k) n x) (r := r) [.pick [0, 1, 2, 3, 4, 5] [4, 5, 6, 7, 23, 24, 25]] (0, 0, a3, a4, a5, a6, a7, a8, a9, a10, r1.1, r1.2.1, r1.2.2.1, r1.2.2.2) k hF (fun _ => rfl) (fun nL7 s15 ih hF => ?_) ?_
    dsimp only [F_impl_StreamRun_L7] at hF
    refine .seq ?_
    refine .xW [] none ⟨[(26, bB (decide (s15.2.1 < (a13.length : Int)))), (4, pT 0 0), (5, iI 0), (6, pT 1 0), (7, iI s15.1), (23, vV none tyIIS a13), (24, iI (a13.length : Int)), (25, iI s15.2.1)], [.box [.nilsl, .nilsl, ci 0, ci 0, ci 0, .bool false, ci 0, ci 0, ci 0, .bool false, .nilsl, .nilsl], .box [.sl 2, .sl 3, ci s15.2.2.1, ci s15.2.2.2.1, ci s15.2.2.2.2.1, .bool s15.2.2.2.2.2.1, ci s15.2.2.2.2.2.2.1, ci s15.2.2.2.2.2.2.2.1, ci s15.2.2.2.2.2.2.2.2.1, .bool s15.2.2.2.2.2.2.2.2.2.1, .sl 4, .sl 5], .row tyIII s15.2.2.2.2.2.2.2.2.2.2.1, .row tyI s15.2.2.2.2.2.2.2.2.2.2.2.1, .row tyI s15.2.2.2.2.2.2.2.2.2.2.2.2.1, .row tyI s15.2.2.2.2.2.2.2.2.2.2.2.2.2]⟩ [] trivial ?_ ?_
    refine .seq ?_
    rcases condE hF with ⟨he, hF⟩ | ⟨he, hF⟩
    ·
     refine .xT he ?_ ?_
     refine .skip ?_
     refine .seq ?_
     refine WT.join (f := fun v21 => F_impl_StreamRun_J17 k s15 (F_impl_StreamRun_L7 k a13 (F_impl_StreamRun_J6 k) nL7) v21) (r := r) (S := fun v21 => ⟨[(4, pT 0 0), (5, iI 0), (6, pT 1 0), (7, iI v21.1), (23, vV none tyIIS a13), (24, iI (a13.length : Int)), (25, iI s15.2.1)], [.box [.nilsl, .nilsl, ci 0, ci 0, ci 0, .bool false, ci 0, ci 0, ci 0, .bool false, .nilsl, .nilsl], .box [.sl 2, .sl 3, ci v21.2.1, ci v21.2.2.1, ci v21.2.2.2.1, .bool v21.2.2.2.2.1, ci v21.2.2.2.2.2.1, ci v21.2.2.2.2.2.2.1, ci v21.2.2.2.2.2.2.2.1, .bool v21.2.2.2.2.2.2.2.2.1, .sl 4, .sl 5], .row tyIII v21.2.2.2.2.2.2.2.2.2.1, .row tyI v21.2.2.2.2.2.2.2.2.2.2.1, .row tyI v21.2.2.2.2.2.2.2.2.2.2.2.1, .row tyI v21.2.2.2.2.2.2.2.2.2.2.2.2]⟩) (fun v21 hF => ?_) (fun hJJ17 => ?_)
     ·
      unfold F_impl_StreamRun_J17 at hF
      refine .vW [] (some ([0, 1, 2, 3, 4, 5], [4, 5, 6, 7, 23, 24, 25])) [] trivial ?_ ?_
      exact .xS [.pick [0, 1, 2, 3, 4, 5] [4, 5, 6, 7, 23, 24, 25]] (ih (v21.1, w64 (s15.2.1 + 1), v21.2.1, v21.2.2.1, v21.2.2.2.1, v21.2.2.2.2.1, v21.2.2.2.2.2.1, v21.2.2.2.2.2.2.1, v21.2.2.2.2.2.2.2.1, v21.2.2.2.2.2.2.2.2.1, v21.2.2.2.2.2.2.2.2.2.1, v21.2.2.2.2.2.2.2.2.2.2.1, v21.2.2.2.2.2.2.2.2.2.2.2.1, v21.2.2.2.2.2.2.2.2.2.2.2.2) hF) (by kernel_rfl)
      all_goals kernel_rfl
     ·
      refine .block ?_
      refine .seq ?_
      obtain ⟨x18, h25, hF⟩ := bindE hF
      refine .vW [.el tyIIS x18] (some ([0, 1, 6, 2, 3, 4, 5], [4, 5, 6, 7, 9, 23, 24, 25])) [at? a13 s15.2.1 = some x18] ⟨h25, trivial⟩ ?_ ?_
      refine .seq ?_
      refine .uB [0, 1] [2, 3, 4, 5, 6, 7, 8] [] [] rfl trivial ?_ ?_
      obtain ⟨r19, h26, hF⟩ := bindE hF
      refine .uC true [] (S_impl_StreamDo k s15.2.2.2.2.2.2.2.2.2.2.1 s15.2.2.2.2.2.2.2.2.2.2.2.1 s15.2.2.1 s15.2.2.2.1 s15.2.2.2.2.1 s15.2.2.2.2.2.1 s15.2.2.2.2.2.2.1 s15.2.2.2.2.2.2.2.1 s15.2.2.2.2.2.2.2.2.1 s15.2.2.2.2.2.2.2.2.2.1 s15.2.2.2.2.2.2.2.2.2.2.2.2.1 s15.2.2.2.2.2.2.2.2.2.2.2.2.2 x18.1 x18.2.1 x18.2.2 r19 h26) rfl ?_ ?_
      refine .vE [] (some ([0, 1, 11, 3, 4, 5, 6, 7, 8, 9, 10], [4, 5, 6, 7, 10, 11, 23, 24, 25])) [] trivial ?_ ?_
      refine .seq ?_
      refine .vW [] (some ([0, 1, 7, 8, 9, 10], [4, 5, 6, 7, 11, 23, 24, 25])) [] trivial ?_ ?_
      refine .seq ?_
      refine .xW [] (some ([0, 1, 2, 3, 4, 5], [4, 5, 6, 7, 23, 24, 25, 36])) ⟨[(4, pT 0 0), (5, iI 0), (6, pT 1 0), (7, iI s15.1), (23, vV none tyIIS a13), (24, iI (a13.length : Int)), (25, iI s15.2.1), (36, bB r19.2.2.2.2.2.2.2.2.1)], [.box [.nilsl, .nilsl, ci 0, ci 0, ci 0, .bool false, ci 0, ci 0, ci 0, .bool false, .nilsl, .nilsl], .box [.sl 2, .sl 3, ci r19.1, ci r19.2.1, ci r19.2.2.1, .bool r19.2.2.2.1, ci r19.2.2.2.2.1, ci r19.2.2.2.2.2.1, ci r19.2.2.2.2.2.2.1, .bool r19.2.2.2.2.2.2.2.1, .sl 4, .sl 5], .row tyIII r19.2.2.2.2.2.2.2.2.2.1, .row tyI r19.2.2.2.2.2.2.2.2.2.2.1, .row tyI r19.2.2.2.2.2.2.2.2.2.2.2.1, .row tyI r19.2.2.2.2.2.2.2.2.2.2.2.2]⟩ [] trivial ?_ ?_
      rcases condE hF with ⟨he, hF⟩ | ⟨he, hF⟩
      ·
       refine .xT he ?_ ?_
       refine .vW [] (some ([0, 1, 2, 3, 4, 5], [4, 5, 6, 7, 23, 24, 25])) [] trivial ?_ ?_
       refine .inBlock ?_
       exact .xS [.pick [0, 1, 2, 3, 4, 5] [4, 5, 6, 7, 23, 24, 25]] (hJJ17 (w64 (s15.1 + 1), r19.1, r19.2.1, r19.2.2.1, r19.2.2.2.1, r19.2.2.2.2.1, r19.2.2.2.2.2.1, r19.2.2.2.2.2.2.1, r19.2.2.2.2.2.2.2.1, r19.2.2.2.2.2.2.2.2.2.1, r19.2.2.2.2.2.2.2.2.2.2.1, r19.2.2.2.2.2.2.2.2.2.2.2.1, r19.2.2.2.2.2.2.2.2.2.2.2.2) hF) (by kernel_rfl)
       all_goals kernel_rfl
      ·
       refine .xF he ?_ ?_
       refine .skip ?_
       refine .inBlock ?_
       exact .xS [.pick [0, 1, 2, 3, 4, 5] [4, 5, 6, 7, 23, 24, 25]] (hJJ17 (s15.1, r19.1, r19.2.1, r19.2.2.1, r19.2.2.2.1, r19.2.2.2.2.1, r19.2.2.2.2.2.1, r19.2.2.2.2.2.2.1, r19.2.2.2.2.2.2.2.1, r19.2.2.2.2.2.2.2.2.2.1, r19.2.2.2.2.2.2.2.2.2.2.1, r19.2.2.2.2.2.2.2.2.2.2.2.1, r19.2.2.2.2.2.2.2.2.2.2.2.2) hF) (by kernel_rfl)
       all_goals kernel_rfl
      all_goals kernel_rfl
     all_goals kernel_rfl
    ·
     refine .xF he ?_ ?_
     refine .exit rfl ?_
     exact .xS [.pick [0, 1, 2, 3, 4, 5] [4, 5, 6, 7]] (hJJ6 (s15.1, s15.2.2.1, s15.2.2.2.1, s15.2.2.2.2.1, s15.2.2.2.2.2.1, s15.2.2.2.2.2.2.1, s15.2.2.2.2.2.2.2.1, s15.2.2.2.2.2.2.2.2.1, s15.2.2.2.2.2.2.2.2.2.1, s15.2.2.2.2.2.2.2.2.2.2.1, s15.2.2.2.2.2.2.2.2.2.2.2.1, s15.2.2.2.2.2.2.2.2.2.2.2.2.1, s15.2.2.2.2.2.2.2.2.2.2.2.2.2) hF) (by kernel_rfl)
     all_goals kernel_rfl
    all_goals kernel_rfl
   all_goals kernel_rfl
  all_goals kernel_rfl
 ·
  refine .uB [0, 1, 2, 3] [4, 5, 6, 7] [] [] rfl trivial ?_ ?_
  rcases condE hF with ⟨he, hF⟩ | ⟨he, hF⟩
  ·
   refine WT.putB [17, 16] he ?_ ?_
   refine .vE [] (some ([1, 2, 3, 4, 5, 6], [1, 4, 5, 6, 21])) [] trivial ?_ ?_
   exact .xS [.pick [0, 1, 2, 3, 4, 5] [1, 4, 5, 6, 21]] (hJJ2 (true) hF) (by kernel_rfl)
   all_goals kernel_rfl
  ·
   refine WT.putB [17, 16] he ?_ ?_
   refine .uN [4] [5, 6, 7] [] [] rfl trivial ?_ ?_
   obtain ⟨r3, h27, hF⟩ := bindE hF
   refine .uC false [] (S_impl_StreamOk k a1 a2 a3 a4 a5 a6 a7 a8 a9 a10 a11 a12 r3 h27) rfl ?_ ?_
   refine .vE [] (some ([1, 2, 3, 4, 5, 6], [1, 4, 5, 6, 21])) [] trivial ?_ ?_
   exact .xS [.pick [0, 1, 2, 3, 4, 5] [1, 4, 5, 6, 21]] (hJJ2 (!r3) hF) (by kernel_rfl)
   all_goals kernel_rfl
  all_goals kernel_rfl
 all_goals kernel_rfl
theorem S_laws_eqNode (k : Nat) (a1 : Int) (a2 : Int) (a3 : Int) (a4 : Int) (a5 : Int) (a6 : Int) (r : Bool) (hF : F_laws_eqNode k a1 a2 a3 a4 a5 a6 = some r) : Spec Tryz.prog 116 [aG [ci a1, ci a2, ci a3], aG [ci a4, ci a5, ci a6]] [] (bB r) [] := by
 refine Spec.of 0 20 Tryz.func116 rfl rfl (Nat.le_of_ble_eq_true rfl) rfl fun w0 S0 Z0 M0 R0 hE => ?_
 unfold F_laws_eqNode at hF
 refine .seq ?_
 refine .vW [] (some ([0, 1], [2, 3, 4])) [] trivial ?_ ?_
 refine .seq ?_
 refine .seq ?_
 refine .xW [] (some ([0, 1], [2, 3, 4, 9])) ⟨[(2, pT 0 0), (3, pT 1 0), (4, bB false), (9, bB (a1 != a4))], [.box [ci a1, ci a2, ci a3], .box [ci a4, ci a5, ci a6]]⟩ [] trivial ?_ ?_
 rcases condE hF with ⟨he, hF⟩ | ⟨he, hF⟩
 ·
  refine .xT he ?_ ?_
  refine .seq ?_
  refine .vW [] (some ([0, 1], [2, 3, 4])) [] trivial ?_ ?_
  cases hF
  exact .xR hE [] [] (by kernel_rfl)
  all_goals kernel_rfl
 ·
  refine .xF he ?_ ?_
  refine .skip ?_
  refine .seq ?_
  refine .seq ?_
  refine .xW [] (some ([0, 1], [2, 3, 4, 14])) ⟨[(2, pT 0 0), (3, pT 1 0), (4, bB false), (14, bB (a2 != a5))], [.box [ci a1, ci a2, ci a3], .box [ci a4, ci a5, ci a6]]⟩ [] trivial ?_ ?_
  rcases condE hF with ⟨he, hF⟩ | ⟨he, hF⟩
  ·
   refine .xT he ?_ ?_
   refine .seq ?_
   refine .vW [] (some ([0, 1], [2, 3, 4])) [] trivial ?_ ?_
   cases hF
   exact .xR hE [] [] (by kernel_rfl)
   all_goals kernel_rfl
  ·
   refine .xF he ?_ ?_
   refine .skip ?_
   refine .seq ?_
   refine .seq ?_
   refine .xW [] (some ([], [4, 19])) ⟨[(4, bB false), (19, bB (a3 != a6))], []⟩ [] trivial ?_ ?_
   rcases condE hF with ⟨he, hF⟩ | ⟨he, hF⟩
   ·
    refine .xT he ?_ ?_
    refine .seq ?_
    refine .vW [] (some ([], [4])) [] trivial ?_ ?_
    cases hF
    exact .xR hE [] [] (by kernel_rfl)
    all_goals kernel_rfl
   ·
    refine .xF he ?_ ?_
    refine .skip ?_
    refine .seq ?_
    refine .vW [] (some ([], [4])) [] trivial ?_ ?_
    cases hF
    exact .xR hE [] [] (by kernel_rfl)
    all_goals kernel_rfl
   all_goals kernel_rfl
  all_goals kernel_rfl
 all_goals kernel_rfl
theorem S_laws_eqNodeS (k : Nat) (a1 : (List (Int × (Int × Int)))) (a2 : (List (Int × (Int × Int)))) (r : Bool) (hF : F_laws_eqNodeS k a1 a2 = some r) : Spec Tryz.prog 89 [vV none tyIII a1, vV none tyIII a2] [] (bB r) [] := by
 refine Spec.of 0 27 Tryz.func89 rfl rfl (Nat.le_of_ble_eq_true rfl) rfl fun w0 S0 Z0 M0 R0 hE => ?_
 unfold F_laws_eqNodeS at hF
 refine .seq ?_
 refine .vW [] none [] trivial ?_ ?_
 refine .seq ?_
 refine .seq ?_
 refine .xW [] (some ([], [0, 1, 4, 10])) ⟨[(0, vV none tyIII a1), (1, vV none tyIII a2), (4, bB false), (10, bB ((a1.length : Int) != (a2.length : Int)))], []⟩ [] trivial ?_ ?_
 rcases condE hF with ⟨he, hF⟩ | ⟨he, hF⟩
 ·
  refine .xT he ?_ ?_
  refine .seq ?_
  refine .vW [] (some ([], [0, 1, 4])) [] trivial ?_ ?_
  cases hF
  exact .xR hE [] [] (by kernel_rfl)
  all_goals kernel_rfl
 ·
  refine .xF he ?_ ?_
  refine .skip ?_
  refine .seq ?_
  refine .seq ?_
  refine .xW [] (some ([], [0, 1, 4, 5])) ⟨[(0, vV none tyIII a1), (1, vV none tyIII a2), (4, bB false), (5, iI 0)], []⟩ [] trivial ?_ ?_
  refine WT.join (f := fun v26 => F_laws_eqNodeS_J2 k v26) (r := r) (S := fun v26 => ⟨[(4, bB false)], []⟩) (fun v26 hF => ?_) (fun hJJ2 => ?_)
  ·
   unfold F_laws_eqNodeS_J2 at hF
   refine .seq ?_
   refine .vW [] none [] trivial ?_ ?_
   cases hF
   exact .xR hE [] [] (by kernel_rfl)
   all_goals kernel_rfl
  ·
   refine .block ?_
   refine WT.xL (fun s15 => ⟨[(0, vV none tyIII a1), (1, vV none tyIII a2), (4, bB false), (5, iI s15)], []⟩) (l := fun n x => F_laws_eqNodeS_L3 k a1 a2 (F_laws_eqNodeS_J2 k) n x) (r := r) [.pick [] [0, 1, 4, 5]] (0) k hF (fun _ => rfl) (fun nL3 s15 ih hF => ?_) ?_
   dsimp only [F_laws_eqNodeS_L3] at hF
   refine .seq ?_
   refine .seq ?_
   refine .xW [] (some ([], [0, 1, 4, 5, 14])) ⟨[(0, vV none tyIII a1), (1, vV none tyIII a2), (4, bB false), (5, iI s15), (14, bB (decide (s15 < (a1.length : Int))))], []⟩ [] trivial ?_ ?_
   rcases condE hF with ⟨he, hF⟩ | ⟨he, hF⟩
   ·
    refine .xT he ?_ ?_
    refine .skip ?_
    refine .seq ?_
    refine .block ?_
    refine .seq ?_
    obtain ⟨x19, h22, hF⟩ := bindE hF
    obtain ⟨x20, h23, hF⟩ := bindE hF
    obtain ⟨r21, h24, hF⟩ := bindE hF
    refine WA.xs [.dep none] [] ?_ ?_
    refine WA.lem (pr' := []) (fuel' := 0) (listed' := #[true, true, true, true, true, true, true, true, true, true]) (st' := ⟨[(0, vV none tyIII a1), (1, vV none tyIII a2), (4, bB false), (5, iI s15), (26, bB (!r21))], []⟩) ?_ (fun A30 => ?_)
    ·
     refine WA.xD none ⟨[(0, vV none tyIII a1), (1, vV none tyIII a2), (4, bB false), (5, iI s15), (26, bB (!r21))], []⟩ ?_ ?_
     rcases condE hF with ⟨he, hF⟩ | ⟨he, hF⟩
     ·
      refine .xT he ?_ ?_
      refine .seq ?_
      refine .vW [] (some ([], [0, 1, 4, 5])) [] trivial ?_ ?_
      cases hF
      exact .xR hE [] [] (by kernel_rfl)
      all_goals kernel_rfl
     ·
      refine .xF he ?_ ?_
      refine .skip ?_
      refine .inBlock ?_
      refine .vW [] (some ([], [0, 1, 4, 5])) [] trivial ?_ ?_
      exact .xS [.pick [] [0, 1, 4, 5]] (ih (w64 (s15 + 1)) hF) (by kernel_rfl)
      all_goals kernel_rfl
     all_goals kernel_rfl
    refine WA.lem (pr' := [.dep none]) (fuel' := 2) (listed' := #[true, true, true, true, true, true, true, true, false, false]) (st' := ⟨[(0, vV none tyIII a1), (1, vV none tyIII a2), (4, bB false), (5, iI s15), (20, aG [ci x19.1, ci x19.2.1, ci x19.2.2]), (24, aG [ci x20.1, ci x20.2.1, ci x20.2.2])], []⟩) ?_ (fun A29 => ?_)
    ·
     refine WA.x1 8 (WO.uC false [] [] (S_laws_eqNode k x19.1 x19.2.1 x19.2.2 x20.1 x20.2.1 x20.2.2 r21 h24) rfl ?_ ?_) ?_
     exact WA.to 1 [] [] [] [0, 1, 4, 5, 26] A30 trivial (by kernel_rfl)
     all_goals kernel_rfl
    exact WA.to 8 [.el tyIII x19, .el tyIII x20] [at? a1 s15 = some x19, at? a2 s15 = some x20] [] [0, 1, 4, 5, 20, 24] A29 ⟨h22, h23, trivial⟩ (by kernel_rfl)
    all_goals kernel_rfl
   ·
    refine .xF he ?_ ?_
    refine .exit rfl ?_
    exact .xS [.pick [] [4]] (hJJ2 () hF) (by kernel_rfl)
    all_goals kernel_rfl
   all_goals kernel_rfl
  all_goals kernel_rfl
 all_goals kernel_rfl
theorem S_laws_eqPool (k : Nat) (a1 : (List (Int × (Int × Int)))) (a2 : (List (Int × (Int × Int)))) (r : Bool) (hF : F_laws_eqPool k a1 a2 = some r) : Spec Tryz.prog 52 [aG [.vw none tyIII a1], aG [.vw none tyIII a2]] [] (bB r) [] := by
 refine Spec.of 0 11 Tryz.func52 rfl rfl (Nat.le_of_ble_eq_true rfl) rfl fun w0 S0 Z0 M0 R0 hE => ?_
 unfold F_laws_eqPool at hF
 refine .seq ?_
 refine .xW [] (some ([0, 1], [2, 3, 4])) ⟨[(2, pT 0 0), (3, pT 1 0), (4, bB false)], [.box [.vw none tyIII a1], .box [.vw none tyIII a2]]⟩ [] trivial ?_ ?_
 refine .seq ?_
 refine .seq ?_
 refine .uB [0, 1, 2, 3] [4, 5] [] [] rfl trivial ?_ ?_
 obtain ⟨r1, h3, hF⟩ := bindE hF
 refine .uC false [] (S_laws_eqNodeS k a1 a2 r1 h3) rfl ?_ ?_
 refine .xE [] (some ([], [4, 10])) ⟨[(4, bB false), (10, bB (!r1))], []⟩ [] trivial ?_ ?_
 rcases condE hF with ⟨he, hF⟩ | ⟨he, hF⟩
 ·
  refine .xT he ?_ ?_
  refine .seq ?_
  refine .vW [] (some ([], [4])) [] trivial ?_ ?_
  cases hF
  exact .xR hE [] [] (by kernel_rfl)
  all_goals kernel_rfl
 ·
  refine .xF he ?_ ?_
  refine .skip ?_
  refine .seq ?_
  refine .vW [] (some ([], [4])) [] trivial ?_ ?_
  cases hF
  exact .xR hE [] [] (by kernel_rfl)
  all_goals kernel_rfl
 all_goals kernel_rfl
theorem S_laws_eqIntS (k : Nat) (a1 : (List Int)) (a2 : (List Int)) (r : Bool) (hF : F_laws_eqIntS k a1 a2 = some r) : Spec Tryz.prog 53 [vV none tyI a1, vV none tyI a2] [] (bB r) [] := by
 refine Spec.of 0 26 Tryz.func53 rfl rfl (Nat.le_of_ble_eq_true rfl) rfl fun w0 S0 Z0 M0 R0 hE => ?_
 unfold F_laws_eqIntS at hF
 refine .seq ?_
 refine .vW [] none [] trivial ?_ ?_
 refine .seq ?_
 refine .seq ?_
 refine .xW [] (some ([], [0, 1, 4, 10])) ⟨[(0, vV none tyI a1), (1, vV none tyI a2), (4, bB false), (10, bB ((a1.length : Int) != (a2.length : Int)))], []⟩ [] trivial ?_ ?_
 rcases condE hF with ⟨he, hF⟩ | ⟨he, hF⟩
 ·
  refine .xT he ?_ ?_
  refine .seq ?_
  refine .vW [] (some ([], [0, 1, 4])) [] trivial ?_ ?_
  cases hF
  exact .xR hE [] [] (by kernel_rfl)
  all_goals kernel_rfl
 ·
  refine .xF he ?_ ?_
  refine .skip ?_
  refine .seq ?_
  refine .seq ?_
  refine .xW [] (some ([], [0, 1, 4, 5])) ⟨[(0, vV none tyI a1), (1, vV none tyI a2), (4, bB false), (5, iI 0)], []⟩ [] trivial ?_ ?_
  refine WT.join (f := fun v22 => F_laws_eqIntS_J2 k v22) (r := r) (S := fun v22 => ⟨[(4, bB false)], []⟩) (fun v22 hF => ?_) (fun hJJ2 => ?_)
  ·
   unfold F_laws_eqIntS_J2 at hF
   refine .seq ?_
   refine .vW [] none [] trivial ?_ ?_
   cases hF
   exact .xR hE [] [] (by kernel_rfl)
   all_goals kernel_rfl
  ·
   refine .block ?_
   refine WT.xL (fun s13 => ⟨[(0, vV none tyI a1), (1, vV none tyI a2), (4, bB false), (5, iI s13)], []⟩) (l := fun n x => F_laws_eqIntS_L3 k a1 a2 (F_laws_eqIntS_J2 k) n x) (r := r) [.pick [] [0, 1, 4, 5]] (0) k hF (fun _ => rfl) (fun nL3 s13 ih hF => ?_) ?_
   dsimp only [F_laws_eqIntS_L3] at hF
   refine .seq ?_
   refine .seq ?_
   refine .xW [] (some ([], [0, 1, 4, 5, 14])) ⟨[(0, vV none tyI a1), (1, vV none tyI a2), (4, bB false), (5, iI s13), (14, bB (decide (s13 < (a1.length : Int))))], []⟩ [] trivial ?_ ?_
   rcases condE hF with ⟨he, hF⟩ | ⟨he, hF⟩
   ·
    refine .xT he ?_ ?_
    refine .skip ?_
    refine .seq ?_
    refine .block ?_
    refine .seq ?_
    obtain ⟨x17, h19, hF⟩ := bindE hF
    obtain ⟨x18, h20, hF⟩ := bindE hF
    refine WA.xs [.dep none] [] ?_ ?_
    refine WA.fin 9 [.el tyI x17, .el tyI x18] [at? a1 s13 = some x17, at? a2 s13 = some x18] (some ([], [0, 1, 4, 5, 25])) ⟨[(0, vV none tyI a1), (1, vV none tyI a2), (4, bB false), (5, iI s13), (25, bB (x17 != x18))], []⟩ ⟨h19, h20, trivial⟩ ?_ ?_
    rcases condE hF with ⟨he, hF⟩ | ⟨he, hF⟩
    ·
     refine .xT he ?_ ?_
     refine .seq ?_
     refine .vW [] (some ([], [0, 1, 4, 5])) [] trivial ?_ ?_
     cases hF
     exact .xR hE [] [] (by kernel_rfl)
     all_goals kernel_rfl
    ·
     refine .xF he ?_ ?_
     refine .skip ?_
     refine .inBlock ?_
     refine .vW [] (some ([], [0, 1, 4, 5])) [] trivial ?_ ?_
     exact .xS [.pick [] [0, 1, 4, 5]] (ih (w64 (s13 + 1)) hF) (by kernel_rfl)
     all_goals kernel_rfl
    all_goals kernel_rfl
   ·
    refine .xF he ?_ ?_
    refine .exit rfl ?_
    exact .xS [.pick [] [4]] (hJJ2 () hF) (by kernel_rfl)
    all_goals kernel_rfl
   all_goals kernel_rfl
  all_goals kernel_rfl
 all_goals kernel_rfl
theorem S_laws_eqLink (k : Nat) (a1 : Int) (a2 : Int) (a3 : Int) (a4 : Bool) (a5 : Int) (a6 : Int) (a7 : Int) (a8 : Bool) (r : Bool) (hF : F_laws_eqLink k a1 a2 a3 a4 a5 a6 a7 a8 = some r) : Spec Tryz.prog 54 [aG [ci a1, ci a2, ci a3, .bool a4], aG [ci a5, ci a6, ci a7, .bool a8]] [] (bB r) [] := by
 refine Spec.of 0 25 Tryz.func54 rfl rfl (Nat.le_of_ble_eq_true rfl) rfl fun w0 S0 Z0 M0 R0 hE => ?_
 unfold F_laws_eqLink at hF
 refine .seq ?_
 refine .vW [] (some ([0, 1], [2, 3, 4])) [] trivial ?_ ?_
 refine .seq ?_
 refine .seq ?_
 refine .xW [] (some ([0, 1], [2, 3, 4, 9])) ⟨[(2, pT 0 0), (3, pT 1 0), (4, bB false), (9, bB (a1 != a5))], [.box [ci a1, ci a2, ci a3, .bool a4], .box [ci a5, ci a6, ci a7, .bool a8]]⟩ [] trivial ?_ ?_
 rcases condE hF with ⟨he, hF⟩ | ⟨he, hF⟩
 ·
  refine .xT he ?_ ?_
  refine .seq ?_
  refine .vW [] (some ([0, 1], [2, 3, 4])) [] trivial ?_ ?_
  cases hF
  exact .xR hE [] [] (by kernel_rfl)
  all_goals kernel_rfl
 ·
  refine .xF he ?_ ?_
  refine .skip ?_
  refine .seq ?_
  refine .seq ?_
  refine .xW [] (some ([0, 1], [2, 3, 4, 14])) ⟨[(2, pT 0 0), (3, pT 1 0), (4, bB false), (14, bB (a2 != a6))], [.box [ci a1, ci a2, ci a3, .bool a4], .box [ci a5, ci a6, ci a7, .bool a8]]⟩ [] trivial ?_ ?_
  rcases condE hF with ⟨he, hF⟩ | ⟨he, hF⟩
  ·
   refine .xT he ?_ ?_
   refine .seq ?_
   refine .vW [] (some ([0, 1], [2, 3, 4])) [] trivial ?_ ?_
   cases hF
   exact .xR hE [] [] (by kernel_rfl)
   all_goals kernel_rfl
  ·
   refine .xF he ?_ ?_
   refine .skip ?_
   refine .seq ?_
   refine .seq ?_
   refine .xW [] (some ([0, 1], [2, 3, 4, 19])) ⟨[(2, pT 0 0), (3, pT 1 0), (4, bB false), (19, bB (a3 != a7))], [.box [ci a1, ci a2, ci a3, .bool a4], .box [ci a5, ci a6, ci a7, .bool a8]]⟩ [] trivial ?_ ?_
   rcases condE hF with ⟨he, hF⟩ | ⟨he, hF⟩
   ·
    refine .xT he ?_ ?_
    refine .seq ?_
    refine .vW [] (some ([0, 1], [2, 3, 4])) [] trivial ?_ ?_
    cases hF
    exact .xR hE [] [] (by kernel_rfl)
    all_goals kernel_rfl
   ·
    refine .xF he ?_ ?_
    refine .skip ?_
    refine .seq ?_
    refine .seq ?_
    refine .xW [] (some ([], [4, 24])) ⟨[(4, bB false), (24, bB (a4 != a8))], []⟩ [] trivial ?_ ?_
    rcases condE hF with ⟨he, hF⟩ | ⟨he, hF⟩
    ·
     refine .xT he ?_ ?_
     refine .seq ?_
     refine .vW [] (some ([], [4])) [] trivial ?_ ?_
     cases hF
     exact .xR hE [] [] (by kernel_rfl)
     all_goals kernel_rfl
    ·
     refine .xF he ?_ ?_
     refine .skip ?_
     refine .seq ?_
     refine .vW [] (some ([], [4])) [] trivial ?_ ?_
     cases hF
     exact .xR hE [] [] (by kernel_rfl)
     all_goals kernel_rfl
    all_goals kernel_rfl
   all_goals kernel_rfl
  all_goals kernel_rfl
 all_goals kernel_rfl
theorem S_laws_eqStream (k : Nat) (a1 : (List (Int × (Int × Int)))) (a2 : (List Int)) (a3 : Int) (a4 : Int) (a5 : Int) (a6 : Bool) (a7 : Int) (a8 : Int) (a9 : Int) (a10 : Bool) (a11 : (List Int)) (a12 : (List Int)) (a13 : (List (Int × (Int × Int)))) (a14 : (List Int)) (a15 : Int) (a16 : Int) (a17 : Int) (a18 : Bool) (a19 : Int) (a20 : Int) (a21 : Int) (a22 : Bool) (a23 : (List Int)) (a24 : (List Int)) (r : Bool) (hF : F_laws_eqStream k a1 a2 a3 a4 a5 a6 a7 a8 a9 a10 a11 a12 a13 a14 a15 a16 a17 a18 a19 a20 a21 a22 a23 a24 = some r) : Spec Tryz.prog 20 [aG [.vw none tyIII a1, .vw none tyI a2, ci a3, ci a4, ci a5, .bool a6, ci a7, ci a8, ci a9, .bool a10, .vw none tyI a11, .vw none tyI a12], aG [.vw none tyIII a13, .vw none tyI a14, ci a15, ci a16, ci a17, .bool a18, ci a19, ci a20, ci a21, .bool a22, .vw none tyI a23, .vw none tyI a24]] [] (bB r) [] := by
 refine Spec.of 0 41 Tryz.func20 rfl rfl (Nat.le_of_ble_eq_true rfl) rfl fun w0 S0 Z0 M0 R0 hE => ?_
 unfold F_laws_eqStream at hF
 refine .seq ?_
 refine .xW [] (some ([0, 1], [2, 3, 4])) ⟨[(2, pT 0 0), (3, pT 1 0), (4, bB false)], [.box [.vw none tyIII a1, .vw none tyI a2, ci a3, ci a4, ci a5, .bool a6, ci a7, ci a8, ci a9, .bool a10, .vw none tyI a11, .vw none tyI a12], .box [.vw none tyIII a13, .vw none tyI a14, ci a15, ci a16, ci a17, .bool a18, ci a19, ci a20, ci a21, .bool a22, .vw none tyI a23, .vw none tyI a24]]⟩ [] trivial ?_ ?_
 refine .seq ?_
 refine .seq ?_
 refine .uB [0, 1, 2, 3] [4, 5] [] [] rfl trivial ?_ ?_
 obtain ⟨r1, h18, hF⟩ := bindE hF
 refine .uC false [] (S_laws_eqPool k a1 a13 r1 h18) rfl ?_ ?_
 refine .xE [] (some ([0, 1], [2, 3, 4, 10])) ⟨[(2, pT 0 0), (3, pT 1 0), (4, bB false), (10, bB (!r1))], [.box [.vw none tyIII a1, .vw none tyI a2, ci a3, ci a4, ci a5, .bool a6, ci a7, ci a8, ci a9, .bool a10, .vw none tyI a11, .vw none tyI a12], .box [.vw none tyIII a13, .vw none tyI a14, ci a15, ci a16, ci a17, .bool a18, ci a19, ci a20, ci a21, .bool a22, .vw none tyI a23, .vw none tyI a24]]⟩ [] trivial ?_ ?_
 rcases condE hF with ⟨he, hF⟩ | ⟨he, hF⟩
 ·
  refine .xT he ?_ ?_
  refine .seq ?_
  refine .vW [] (some ([0, 1], [2, 3, 4])) [] trivial ?_ ?_
  cases hF
  exact .xR hE [] [] (by kernel_rfl)
  all_goals kernel_rfl
 ·
  refine .xF he ?_ ?_
  refine .skip ?_
  refine .seq ?_
  refine .seq ?_
  refine .uB [0, 1, 2, 3] [4, 5] [] [] rfl trivial ?_ ?_
  obtain ⟨r3, h17, hF⟩ := bindE hF
  refine .uC false [] (S_laws_eqIntS k a2 a14 r3 h17) rfl ?_ ?_
  refine .xE [] (some ([0, 1], [2, 3, 4, 16])) ⟨[(2, pT 0 0), (3, pT 1 0), (4, bB false), (16, bB (!r3))], [.box [.vw none tyIII a1, .vw none tyI a2, ci a3, ci a4, ci a5, .bool a6, ci a7, ci a8, ci a9, .bool a10, .vw none tyI a11, .vw none tyI a12], .box [.vw none tyIII a13, .vw none tyI a14, ci a15, ci a16, ci a17, .bool a18, ci a19, ci a20, ci a21, .bool a22, .vw none tyI a23, .vw none tyI a24]]⟩ [] trivial ?_ ?_
  rcases condE hF with ⟨he, hF⟩ | ⟨he, hF⟩
  ·
   refine .xT he ?_ ?_
   refine .seq ?_
   refine .vW [] (some ([0, 1], [2, 3, 4])) [] trivial ?_ ?_
   cases hF
   exact .xR hE [] [] (by kernel_rfl)
   all_goals kernel_rfl
  ·
   refine .xF he ?_ ?_
   refine .skip ?_
   refine .seq ?_
   refine .seq ?_
   refine .uB [0, 1, 2, 3] [4, 5] [] [] rfl trivial ?_ ?_
   obtain ⟨r5, h16, hF⟩ := bindE hF
   refine .uC false [] (S_laws_eqLink k a3 a4 a5 a6 a15 a16 a17 a18 r5 h16) rfl ?_ ?_
   refine .xE [] (some ([0, 1], [2, 3, 4, 22])) ⟨[(2, pT 0 0), (3, pT 1 0), (4, bB false), (22, bB (!r5))], [.box [.vw none tyIII a1, .vw none tyI a2, ci a3, ci a4, ci a5, .bool a6, ci a7, ci a8, ci a9, .bool a10, .vw none tyI a11, .vw none tyI a12], .box [.vw none tyIII a13, .vw none tyI a14, ci a15, ci a16, ci a17, .bool a18, ci a19, ci a20, ci a21, .bool a22, .vw none tyI a23, .vw none tyI a24]]⟩ [] trivial ?_ ?_
   rcases condE hF with ⟨he, hF⟩ | ⟨he, hF⟩
   ·
    refine .xT he ?_ ?_
    refine .seq ?_
    refine .vW [] (some ([0, 1], [2, 3, 4])) [] trivial ?_ ?_
    cases hF
    exact .xR hE [] [] (by kernel_rfl)
    all_goals kernel_rfl
   ·
    refine .xF he ?_ ?_
    refine .skip ?_
    refine .seq ?_
    refine .seq ?_
    refine .uB [0, 1, 2, 3] [4, 5] [] [] rfl trivial ?_ ?_
    obtain ⟨r7, h15, hF⟩ := bindE hF
    refine .uC false [] (S_laws_eqLink k a7 a8 a9 a10 a19 a20 a21 a22 r7 h15) rfl ?_ ?_
    refine .xE [] (some ([0, 1], [2, 3, 4, 28])) ⟨[(2, pT 0 0), (3, pT 1 0), (4, bB false), (28, bB (!r7))], [.box [.vw none tyIII a1, .vw none tyI a2, ci a3, ci a4, ci a5, .bool a6, ci a7, ci a8, ci a9, .bool a10, .vw none tyI a11, .vw none tyI a12], .box [.vw none tyIII a13, .vw none tyI a14, ci a15, ci a16, ci a17, .bool a18, ci a19, ci a20, ci a21, .bool a22, .vw none tyI a23, .vw none tyI a24]]⟩ [] trivial ?_ ?_
    rcases condE hF with ⟨he, hF⟩ | ⟨he, hF⟩
    ·
     refine .xT he ?_ ?_
     refine .seq ?_
     refine .vW [] (some ([0, 1], [2, 3, 4])) [] trivial ?_ ?_
     cases hF
     exact .xR hE [] [] (by kernel_rfl)
     all_goals kernel_rfl
    ·
     refine .xF he ?_ ?_
     refine .skip ?_
     refine .seq ?_
     refine .seq ?_
     refine .uB [0, 1, 2, 3] [4, 5] [] [] rfl trivial ?_ ?_
     obtain ⟨r9, h14, hF⟩ := bindE hF
     refine .uC false [] (S_laws_eqIntS k a11 a23 r9 h14) rfl ?_ ?_
     refine .xE [] (some ([0, 1], [2, 3, 4, 34])) ⟨[(2, pT 0 0), (3, pT 1 0), (4, bB false), (34, bB (!r9))], [.box [.vw none tyIII a1, .vw none tyI a2, ci a3, ci a4, ci a5, .bool a6, ci a7, ci a8, ci a9, .bool a10, .vw none tyI a11, .vw none tyI a12], .box [.vw none tyIII a13, .vw none tyI a14, ci a15, ci a16, ci a17, .bool a18, ci a19, ci a20, ci a21, .bool a22, .vw none tyI a23, .vw none tyI a24]]⟩ [] trivial ?_ ?_
     rcases condE hF with ⟨he, hF⟩ | ⟨he, hF⟩
     ·
      refine .xT he ?_ ?_
      refine .seq ?_
      refine .vW [] (some ([0, 1], [2, 3, 4])) [] trivial ?_ ?_
      cases hF
      exact .xR hE [] [] (by kernel_rfl)
      all_goals kernel_rfl
     ·
      refine .xF he ?_ ?_
      refine .skip ?_
      refine .seq ?_
      refine .seq ?_
      refine .uB [0, 1, 2, 3] [4, 5] [] [] rfl trivial ?_ ?_
      obtain ⟨r11, h13, hF⟩ := bindE hF
      refine .uC false [] (S_laws_eqIntS k a12 a24 r11 h13) rfl ?_ ?_
      refine .xE [] (some ([], [4, 40])) ⟨[(4, bB false), (40, bB (!r11))], []⟩ [] trivial ?_ ?_
      rcases condE hF with ⟨he, hF⟩ | ⟨he, hF⟩
      ·
       refine .xT he ?_ ?_
       refine .seq ?_
       refine .vW [] (some ([], [4])) [] trivial ?_ ?_
       cases hF
       exact .xR hE [] [] (by kernel_rfl)
       all_goals kernel_rfl
      ·
       refine .xF he ?_ ?_
       refine .skip ?_
       refine .seq ?_
       refine .vW [] (some ([], [4])) [] trivial ?_ ?_
       cases hF
       exact .xR hE [] [] (by kernel_rfl)
       all_goals kernel_rfl
      all_goals kernel_rfl
     all_goals kernel_rfl
    all_goals kernel_rfl
   all_goals kernel_rfl
  all_goals kernel_rfl
 all_goals kernel_rfl
theorem S_laws_eqAction (k : Nat) (a1 : Int) (a2 : Int) (a3 : ByteArray) (a4 : Int) (a5 : Int) (a6 : ByteArray) (r : Bool) (hF : F_laws_eqAction k a1 a2 a3 a4 a5 a6 = some r) : Spec Tryz.prog 59 [aG [ci a1, ci a2, .str a3], aG [ci a4, ci a5, .str a6]] [] (bB r) [] := by
 refine Spec.of 0 20 Tryz.func59 rfl rfl (Nat.le_of_ble_eq_true rfl) rfl fun w0 S0 Z0 M0 R0 hE => ?_
 unfold F_laws_eqAction at hF
 refine .seq ?_
 refine .vW [] (some ([0, 1], [2, 3, 4])) [] trivial ?_ ?_
 refine .seq ?_
 refine .seq ?_
 refine .xW [] (some ([0, 1], [2, 3, 4, 9])) ⟨[(2, pT 0 0), (3, pT 1 0), (4, bB false), (9, bB (a1 != a4))], [.box [ci a1, ci a2, .str a3], .box [ci a4, ci a5, .str a6]]⟩ [] trivial ?_ ?_
 rcases condE hF with ⟨he, hF⟩ | ⟨he, hF⟩
 ·
  refine .xT he ?_ ?_
  refine .seq ?_
  refine .vW [] (some ([0, 1], [2, 3, 4])) [] trivial ?_ ?_
  cases hF
  exact .xR hE [] [] (by kernel_rfl)
  all_goals kernel_rfl
 ·
  refine .xF he ?_ ?_
  refine .skip ?_
  refine .seq ?_
  refine .seq ?_
  refine .xW [] (some ([0, 1], [2, 3, 4, 14])) ⟨[(2, pT 0 0), (3, pT 1 0), (4, bB false), (14, bB (a2 != a5))], [.box [ci a1, ci a2, .str a3], .box [ci a4, ci a5, .str a6]]⟩ [] trivial ?_ ?_
  rcases condE hF with ⟨he, hF⟩ | ⟨he, hF⟩
  ·
   refine .xT he ?_ ?_
   refine .seq ?_
   refine .vW [] (some ([0, 1], [2, 3, 4])) [] trivial ?_ ?_
   cases hF
   exact .xR hE [] [] (by kernel_rfl)
   all_goals kernel_rfl
  ·
   refine .xF he ?_ ?_
   refine .skip ?_
   refine .seq ?_
   refine .seq ?_
   refine .xW [] (some ([], [4, 19])) ⟨[(4, bB false), (19, bB (!(a3.toList == a6.toList)))], []⟩ [] trivial ?_ ?_
   rcases condE hF with ⟨he, hF⟩ | ⟨he, hF⟩
   ·
    refine .xT he ?_ ?_
    refine .seq ?_
    refine .vW [] (some ([], [4])) [] trivial ?_ ?_
    cases hF
    exact .xR hE [] [] (by kernel_rfl)
    all_goals kernel_rfl
   ·
    refine .xF he ?_ ?_
    refine .skip ?_
    refine .seq ?_
    refine .vW [] (some ([], [4])) [] trivial ?_ ?_
    cases hF
    exact .xR hE [] [] (by kernel_rfl)
    all_goals kernel_rfl
   all_goals kernel_rfl
  all_goals kernel_rfl
 all_goals kernel_rfl
theorem S_laws_eqActionS (k : Nat) (a1 : (List (Int × (Int × ByteArray)))) (a2 : (List (Int × (Int × ByteArray)))) (r : Bool) (hF : F_laws_eqActionS k a1 a2 = some r) : Spec Tryz.prog 26 [vV none tyIIS a1, vV none tyIIS a2] [] (bB r) [] := by
 refine Spec.of 0 27 Tryz.func26 rfl rfl (Nat.le_of_ble_eq_true rfl) rfl fun w0 S0 Z0 M0 R0 hE => ?_
 unfold F_laws_eqActionS at hF
 refine .seq ?_
 refine .vW [] none [] trivial ?_ ?_
 refine .seq ?_
 refine .seq ?_
 refine .xW [] (some ([], [0, 1, 4, 10])) ⟨[(0, vV none tyIIS a1), (1, vV none tyIIS a2), (4, bB false), (10, bB ((a1.length : Int) != (a2.length : Int)))], []⟩ [] trivial ?_ ?_
 rcases condE hF with ⟨he, hF⟩ | ⟨he, hF⟩
 ·
  refine .xT he ?_ ?_
  refine .seq ?_
  refine .vW [] (some ([], [0, 1, 4])) [] trivial ?_ ?_
  cases hF
  exact .xR hE [] [] (by kernel_rfl)
  all_goals kernel_rfl
 ·
  refine .xF he ?_ ?_
  refine .skip ?_
  refine .seq ?_
  refine .seq ?_
  refine .xW [] (some ([], [0, 1, 4, 5])) ⟨[(0, vV none tyIIS a1), (1, vV none tyIIS a2), (4, bB false), (5, iI 0)], []⟩ [] trivial ?_ ?_
  refine WT.join (f := fun v26 => F_laws_eqActionS_J2 k v26) (r := r) (S := fun v26 => ⟨[(4, bB false)], []⟩) (fun v26 hF => ?_) (fun hJJ2 => ?_)
  ·
   unfold F_laws_eqActionS_J2 at hF
   refine .seq ?_
   refine .vW [] none [] trivial ?_ ?_
   cases hF
   exact .xR hE [] [] (by kernel_rfl)
   all_goals kernel_rfl
  ·
   refine .block ?_
   refine WT.xL (fun s15 => ⟨[(0, vV none tyIIS a1), (1, vV none tyIIS a2), (4, bB false), (5, iI s15)], []⟩) (l := fun n x => F_laws_eqActionS_L3 k a1 a2 (F_laws_eqActionS_J2 k) n x) (r := r) [.pick [] [0, 1, 4, 5]] (0) k hF (fun _ => rfl) (fun nL3 s15 ih hF => ?_) ?_
   dsimp only [F_laws_eqActionS_L3] at hF
   refine .seq ?_
   refine .seq ?_
   refine .xW [] (some ([], [0, 1, 4, 5, 14])) ⟨[(0, vV none tyIIS a1), (1, vV none tyIIS a2), (4, bB false), (5, iI s15), (14, bB (decide (s15 < (a1.length : Int))))], []⟩ [] trivial ?_ ?_
   rcases condE hF with ⟨he, hF⟩ | ⟨he, hF⟩
   ·
    refine .xT he ?_ ?_
    refine .skip ?_
    refine .seq ?_
    refine .block ?_
    refine .seq ?_
    obtain ⟨x19, h22, hF⟩ := bindE hF
    obtain ⟨x20, h23, hF⟩ := bindE hF
    obtain ⟨r21, h24, hF⟩ := bindE hF
    refine WA.xs [.dep none] [] ?_ ?_
    refine WA.lem (pr' := []) (fuel' := 0) (listed' := #[true, true, true, true, true, true, true, true, true, true]) (st' := ⟨[(0, vV none tyIIS a1), (1, vV none tyIIS a2), (4, bB false), (5, iI s15), (26, bB (!r21))], []⟩) ?_ (fun A30 => ?_)
    ·
     refine WA.xD none ⟨[(0, vV none tyIIS a1), (1, vV none tyIIS a2), (4, bB false), (5, iI s15), (26, bB (!r21))], []⟩ ?_ ?_
     rcases condE hF with ⟨he, hF⟩ | ⟨he, hF⟩
     ·
      refine .xT he ?_ ?_
      refine .seq ?_
      refine .vW [] (some ([], [0, 1, 4, 5])) [] trivial ?_ ?_
      cases hF
      exact .xR hE [] [] (by kernel_rfl)
      all_goals kernel_rfl
     ·
      refine .xF he ?_ ?_
      refine .skip ?_
      refine .inBlock ?_
      refine .vW [] (some ([], [0, 1, 4, 5])) [] trivial ?_ ?_
      exact .xS [.pick [] [0, 1, 4, 5]] (ih (w64 (s15 + 1)) hF) (by kernel_rfl)
      all_goals kernel_rfl
     all_goals kernel_rfl
    refine WA.lem (pr' := [.dep none]) (fuel' := 2) (listed' := #[true, true, true, true, true, true, true, true, false, false]) (st' := ⟨[(0, vV none tyIIS a1), (1, vV none tyIIS a2), (4, bB false), (5, iI s15), (20, aG [ci x19.1, ci x19.2.1, .str x19.2.2]), (24, aG [ci x20.1, ci x20.2.1, .str x20.2.2])], []⟩) ?_ (fun A29 => ?_)
    ·
     refine WA.x1 8 (WO.uC false [] [] (S_laws_eqAction k x19.1 x19.2.1 x19.2.2 x20.1 x20.2.1 x20.2.2 r21 h24) rfl ?_ ?_) ?_
     exact WA.to 1 [] [] [] [0, 1, 4, 5, 26] A30 trivial (by kernel_rfl)
     all_goals kernel_rfl
    exact WA.to 8 [.el tyIIS x19, .el tyIIS x20] [at? a1 s15 = some x19, at? a2 s15 = some x20] [] [0, 1, 4, 5, 20, 24] A29 ⟨h22, h23, trivial⟩ (by kernel_rfl)
    all_goals kernel_rfl
   ·
    refine .xF he ?_ ?_
    refine .exit rfl ?_
    exact .xS [.pick [] [4]] (hJJ2 () hF) (by kernel_rfl)
    all_goals kernel_rfl
   all_goals kernel_rfl
  all_goals kernel_rfl
 all_goals kernel_rfl
theorem S_laws_markNodeS_10f2 (k : Nat) (a1 : Int) (a2 : (List (Int × (Int × Int)))) (r : Int × (List (Int × (Int × Int)))) (hF : F_laws_markNodeS_10f2 k a1 a2 = some r) : Spec Tryz.prog 90 [sL 0, iI a1] [.row tyIII a2] (iI r.1) [.row tyIII r.2] := by
 refine Spec.of 1 34 Tryz.func90 rfl rfl (Nat.le_of_ble_eq_true rfl) rfl fun w0 S0 Z0 M0 R0 hE => ?_
 unfold F_laws_markNodeS_10f2 at hF
 refine .seq ?_
 refine .vW [] none [] trivial ?_ ?_
 refine .seq ?_
 refine .seq ?_
 refine .xW [] none ⟨[(5, iI 0), (4, iI 0), (0, sL 0), (1, iI a1)], [.row tyIII a2]⟩ [] trivial ?_ ?_
 refine WT.join (f := fun v15 => F_laws_markNodeS_10f2_J1 k v15) (r := r) (S := fun v15 => ⟨[(1, iI v15.1), (4, iI 0)], [.row tyIII v15.2]⟩) (fun v15 hF => ?_) (fun hJJ1 => ?_)
 ·
  unfold F_laws_markNodeS_10f2_J1 at hF
  refine .seq ?_
  refine .vW [] (some ([0], [4])) [] trivial ?_ ?_
  cases hF
  exact .xR hE [] [0] (by kernel_rfl)
  all_goals kernel_rfl
 ·
  refine .block ?_
  refine WT.xL (fun s9 => ⟨[(0, sL 0), (1, iI s9.1), (4, iI 0), (5, iI s9.2.1)], [.row tyIII s9.2.2]⟩) (l := fun n x => F_laws_markNodeS_10f2_L2 k (F_laws_markNodeS_10f2_J1 k) n x) (r := r) [.pick [0] [0, 1, 4, 5]] (a1, 0, a2) k hF (fun _ => rfl) (fun nL2 s9 ih hF => ?_) ?_
  dsimp only [F_laws_markNodeS_10f2_L2] at hF
  refine .seq ?_
  refine .seq ?_
  refine .xW [] (some ([0], [0, 1, 4, 5, 9])) ⟨[(0, sL 0), (1, iI s9.1), (4, iI 0), (5, iI s9.2.1), (9, bB (decide (s9.2.1 < (s9.2.2.length : Int))))], [.row tyIII s9.2.2]⟩ [] trivial ?_ ?_
  rcases condE hF with ⟨he, hF⟩ | ⟨he, hF⟩
  ·
   refine .xT he ?_ ?_
   refine .skip ?_
   refine .seq ?_
   refine .block ?_
   refine .seq ?_
   obtain ⟨x12, h19, hF⟩ := bindE hF
   refine .vW [.el tyIII x12] (some ([0], [0, 1, 4, 5])) [at? s9.2.2 s9.2.1 = some x12] ⟨h19, trivial⟩ ?_ ?_
   refine .seq ?_
   refine .vW [] (some ([0], [0, 1, 4, 5])) [] trivial ?_ ?_
   refine .seq ?_
   obtain ⟨x13, h20, hF⟩ := bindE hF
   refine .vW [.el tyIII x13] (some ([0], [0, 1, 4, 5])) [at? (s9.2.2.set ((s9.2.1).toNat) (s9.1, x12.2)) s9.2.1 = some x13] ⟨h20, trivial⟩ ?_ ?_
   refine .seq ?_
   refine .xW [] (some ([0], [0, 1, 4, 5])) ⟨[(0, sL 0), (1, iI (w64 ((w64 (s9.1 + 1)) + 1))), (4, iI 0), (5, iI s9.2.1)], [.row tyIII ((s9.2.2.set ((s9.2.1).toNat) (s9.1, x12.2)).set ((s9.2.1).toNat) (x13.1, (w64 (s9.1 + 1), x13.2.2)))]⟩ [] trivial ?_ ?_
   refine .seq ?_
   obtain ⟨x14, h21, hF⟩ := bindE hF
   refine .vW [.el tyIII x14] (some ([0], [0, 1, 4, 5])) [at? ((s9.2.2.set ((s9.2.1).toNat) (s9.1, x12.2)).set ((s9.2.1).toNat) (x13.1, (w64 (s9.1 + 1), x13.2.2))) s9.2.1 = some x14] ⟨h21, trivial⟩ ?_ ?_
   refine .vW [] (some ([0], [0, 1, 4, 5])) [] trivial ?_ ?_
   refine .inBlock ?_
   refine .vW [] (some ([0], [0, 1, 4, 5])) [] trivial ?_ ?_
   exact .xS [.pick [0] [0, 1, 4, 5]] (ih (w64 ((w64 ((w64 (s9.1 + 1)) + 1)) + 1), w64 (s9.2.1 + 1), ((s9.2.2.set ((s9.2.1).toNat) (s9.1, x12.2)).set ((s9.2.1).toNat) (x13.1, (w64 (s9.1 + 1), x13.2.2))).set ((s9.2.1).toNat) (x14.1, (x14.2.1, w64 ((w64 (s9.1 + 1)) + 1)))) hF) (by kernel_rfl)
   all_goals kernel_rfl
  ·
   refine .xF he ?_ ?_
   refine .exit rfl ?_
   exact .xS [.pick [0] [1, 4]] (hJJ1 (s9.1, s9.2.2) hF) (by kernel_rfl)
   all_goals kernel_rfl
  all_goals kernel_rfl
 all_goals kernel_rfl
theorem S_laws_markPool_fd6a (k : Nat) (a1 : Int) (a2 : (List (Int × (Int × Int)))) (r : Int × (List (Int × (Int × Int)))) (hF : F_laws_markPool_fd6a k a1 a2 = some r) : Spec Tryz.prog 55 [aG [.sl 0], iI a1] [.row tyIII a2] (iI r.1) [.row tyIII r.2] := by
 refine Spec.of 1 10 Tryz.func55 rfl rfl (Nat.le_of_ble_eq_true rfl) rfl fun w0 S0 Z0 M0 R0 hE => ?_
 unfold F_laws_markPool_fd6a at hF
 refine .seq ?_
 refine .xW [] (some ([0, 1], [1, 2, 4])) ⟨[(1, iI a1), (2, pT 1 0), (4, iI 0)], [.row tyIII a2, .box [.sl 0]]⟩ [] trivial ?_ ?_
 refine .seq ?_
 refine .uB [0, 1, 2] [3, 4] [] [] rfl trivial ?_ ?_
 obtain ⟨r1, h2, hF⟩ := bindE hF
 refine .uC false [.whole 0] (S_laws_markNodeS_10f2 k a1 a2 r1 h2) rfl ?_ ?_
 refine .vE [] (some ([0], [1, 4])) [] trivial ?_ ?_
 refine .seq ?_
 refine .vW [] (some ([0], [4])) [] trivial ?_ ?_
 cases hF
 exact .xR hE [] [0] (by kernel_rfl)
 all_goals kernel_rfl
theorem S_laws_markIntS_f72a (k : Nat) (a1 : Int) (a2 : (List Int)) (r : Int × (List Int)) (hF : F_laws_markIntS_f72a k a1 a2 = some r) : Spec Tryz.prog 56 [sL 0, iI a1] [.row tyI a2] (iI r.1) [.row tyI r.2] := by
 refine Spec.of 1 19 Tryz.func56 rfl rfl (Nat.le_of_ble_eq_true rfl) rfl fun w0 S0 Z0 M0 R0 hE => ?_
 unfold F_laws_markIntS_f72a at hF
 refine .seq ?_
 refine .vW [] none [] trivial ?_ ?_
 refine .seq ?_
 refine .seq ?_
 refine .xW [] none ⟨[(5, iI 0), (4, iI 0), (0, sL 0), (1, iI a1)], [.row tyI a2]⟩ [] trivial ?_ ?_
 refine WT.join (f := fun v11 => F_laws_markIntS_f72a_J1 k v11) (r := r) (S := fun v11 => ⟨[(1, iI v11.1), (4, iI 0)], [.row tyI v11.2]⟩) (fun v11 hF => ?_) (fun hJJ1 => ?_)
 ·
  unfold F_laws_markIntS_f72a_J1 at hF
  refine .seq ?_
  refine .vW [] (some ([0], [4])) [] trivial ?_ ?_
  cases hF
  exact .xR hE [] [0] (by kernel_rfl)
  all_goals kernel_rfl
 ·
  refine .block ?_
  refine WT.xL (fun s7 => ⟨[(0, sL 0), (1, iI s7.1), (4, iI 0), (5, iI s7.2.1)], [.row tyI s7.2.2]⟩) (l := fun n x => F_laws_markIntS_f72a_L2 k (F_laws_markIntS_f72a_J1 k) n x) (r := r) [.pick [0] [0, 1, 4, 5]] (a1, 0, a2) k hF (fun _ => rfl) (fun nL2 s7 ih hF => ?_) ?_
  dsimp only [F_laws_markIntS_f72a_L2] at hF
  refine .seq ?_
  refine .seq ?_
  refine .xW [] (some ([0], [0, 1, 4, 5, 9])) ⟨[(0, sL 0), (1, iI s7.1), (4, iI 0), (5, iI s7.2.1), (9, bB (decide (s7.2.1 < (s7.2.2.length : Int))))], [.row tyI s7.2.2]⟩ [] trivial ?_ ?_
  rcases condE hF with ⟨he, hF⟩ | ⟨he, hF⟩
  ·
   refine .xT he ?_ ?_
   refine .skip ?_
   refine .seq ?_
   refine .block ?_
   refine .seq ?_
   obtain ⟨x10, h13, hF⟩ := bindE hF
   refine .vW [.el tyI x10] (some ([0], [0, 1, 4, 5])) [at? s7.2.2 s7.2.1 = some x10] ⟨h13, trivial⟩ ?_ ?_
   refine .vW [] (some ([0], [0, 1, 4, 5])) [] trivial ?_ ?_
   refine .inBlock ?_
   refine .vW [] (some ([0], [0, 1, 4, 5])) [] trivial ?_ ?_
   exact .xS [.pick [0] [0, 1, 4, 5]] (ih (w64 (s7.1 + 1), w64 (s7.2.1 + 1), s7.2.2.set ((s7.2.1).toNat) s7.1) hF) (by kernel_rfl)
   all_goals kernel_rfl
  ·
   refine .xF he ?_ ?_
   refine .exit rfl ?_
   exact .xS [.pick [0] [1, 4]] (hJJ1 (s7.1, s7.2.2) hF) (by kernel_rfl)
   all_goals kernel_rfl
  all_goals kernel_rfl
 all_goals kernel_rfl
theorem S_laws_markStream_3c3c (k : Nat) (a1 : Int) (a2 : Int) (a3 : Int) (a4 : Bool) (a5 : Int) (a6 : Int) (a7 : Int) (a8 : Bool) (a9 : Int) (a10 : (List (Int × (Int × Int)))) (a11 : (List Int)) (a12 : (List Int)) (a13 : (List Int)) (r : Int × (List (Int × (Int × Int))) × (List Int) × (List Int) × (List Int)) (hF : F_laws_markStream_3c3c k a1 a2 a3 a4 a5 a6 a7 a8 a9 a10 a11 a12 a13 = some r) : Spec Tryz.prog 21 [aG [.sl 0, .sl 1, ci a1, ci a2, ci a3, .bool a4, ci a5, ci a6, ci a7, .bool a8, .sl 2, .sl 3], iI a9] [.row tyIII a10, .row tyI a11, .row tyI a12, .row tyI a13] (iI r.1) [.row tyIII r.2.1, .row tyI r.2.2.1, .row tyI r.2.2.2.1, .row tyI r.2.2.2.2] := by
 refine Spec.of 4 22 Tryz.func21 rfl rfl (Nat.le_of_ble_eq_true rfl) rfl fun w0 S0 Z0 M0 R0 hE => ?_
 unfold F_laws_markStream_3c3c at hF
 refine .seq ?_
 refine .xW [] (some ([0, 1, 2, 3, 4], [1, 2, 4])) ⟨[(1, iI a9), (2, pT 4 0), (4, iI 0)], [.row tyIII a10, .row tyI a11, .row tyI a12, .row tyI a13, .box [.sl 0, .sl 1, ci a1, ci a2, ci a3, .bool a4, ci a5, ci a6, ci a7, .bool a8, .sl 2, .sl 3]]⟩ [] trivial ?_ ?_
 refine .seq ?_
 refine .uB [0, 1, 2] [3, 4] [] [] rfl trivial ?_ ?_
 obtain ⟨r1, h8, hF⟩ := bindE hF
 refine .uC false [.whole 0] (S_laws_markPool_fd6a k a9 a10 r1 h8) rfl ?_ ?_
 refine .xE [] (some ([0, 1, 2, 3, 4], [1, 2, 4])) ⟨[(1, iI r1.1), (2, pT 4 0), (4, iI 0)], [.row tyIII r1.2, .row tyI a11, .row tyI a12, .row tyI a13, .box [.sl 0, .sl 1, ci a1, ci a2, ci a3, .bool a4, ci a5, ci a6, ci a7, .bool a8, .sl 2, .sl 3]]⟩ [] trivial ?_ ?_
 refine .seq ?_
 refine .uB [0, 1, 2] [3, 4] [] [] rfl trivial ?_ ?_
 obtain ⟨r2, h7, hF⟩ := bindE hF
 refine .uC false [.whole 1] (S_laws_markIntS_f72a k r1.1 a11 r2 h7) rfl ?_ ?_
 refine .xE [] (some ([0, 1, 2, 3, 4], [1, 2, 4])) ⟨[(1, iI r2.1), (2, pT 4 0), (4, iI 0)], [.row tyIII r1.2, .row tyI r2.2, .row tyI a12, .row tyI a13, .box [.sl 0, .sl 1, ci a1, ci a2, ci a3, .bool a4, ci a5, ci a6, ci a7, .bool a8, .sl 2, .sl 3]]⟩ [] trivial ?_ ?_
 refine .seq ?_
 refine .uB [0, 1, 2] [3, 4] [] [] rfl trivial ?_ ?_
 obtain ⟨r3, h6, hF⟩ := bindE hF
 refine .uC false [.whole 2] (S_laws_markIntS_f72a k r2.1 a12 r3 h6) rfl ?_ ?_
 refine .xE [] (some ([0, 1, 2, 3, 4], [1, 2, 4])) ⟨[(1, iI r3.1), (2, pT 4 0), (4, iI 0)], [.row tyIII r1.2, .row tyI r2.2, .row tyI r3.2, .row tyI a13, .box [.sl 0, .sl 1, ci a1, ci a2, ci a3, .bool a4, ci a5, ci a6, ci a7, .bool a8, .sl 2, .sl 3]]⟩ [] trivial ?_ ?_
 refine .seq ?_
 refine .uB [0, 1, 2] [3, 4] [] [] rfl trivial ?_ ?_
 obtain ⟨r4, h5, hF⟩ := bindE hF
 refine .uC false [.whole 3] (S_laws_markIntS_f72a k r3.1 a13 r4 h5) rfl ?_ ?_
 refine .vE [] (some ([0, 1, 2, 3], [1, 4])) [] trivial ?_ ?_
 refine .seq ?_
 refine .vW [] (some ([0, 1, 2, 3], [4])) [] trivial ?_ ?_
 cases hF
 exact .xR hE [] [0, 1, 2, 3] (by kernel_rfl)
 all_goals kernel_rfl
theorem S_laws_markText (k : Nat) (a1 : Int) (r : ByteArray) (hF : F_laws_markText k a1 = some r) : Spec Tryz.prog 60 [iI a1] [] (sS r) [] := by
 refine Spec.of 0 20 Tryz.func60 rfl rfl (Nat.le_of_ble_eq_true rfl) rfl fun w0 S0 Z0 M0 R0 hE => ?_
 unfold F_laws_markText at hF
 refine .seq ?_
 refine .vW [] none [] trivial ?_ ?_
 refine .seq ?_
 refine .seq ?_
 refine .xW [] (some ([], [0, 2, 5])) ⟨[(0, iI a1), (2, sS (⟨#[]⟩ : ByteArray)), (5, bB (decide (a1 ≤ 0)))], []⟩ [] trivial ?_ ?_
 rcases condE hF with ⟨he, hF⟩ | ⟨he, hF⟩
 ·
  refine .xT he ?_ ?_
  refine .seq ?_
  refine .vW [] (some ([], [0, 2])) [] trivial ?_ ?_
  cases hF
  exact .xR hE [] [] (by kernel_rfl)
  all_goals kernel_rfl
 ·
  refine .xF he ?_ ?_
  refine .skip ?_
  refine .seq ?_
  refine .xW [] (some ([], [0, 2, 3])) ⟨[(0, iI a1), (2, sS (⟨#[]⟩ : ByteArray)), (3, sS (⟨#[]⟩ : ByteArray))], []⟩ [] trivial ?_ ?_
  refine .seq ?_
  refine WT.join (f := fun v10 => F_laws_markText_J2 k v10) (r := r) (S := fun v10 => ⟨[(2, sS (⟨#[]⟩ : ByteArray)), (3, sS v10)], []⟩) (fun v10 hF => ?_) (fun hJJ2 => ?_)
  ·
   unfold F_laws_markText_J2 at hF
   refine .seq ?_
   obtain ⟨h11, hF⟩ := iteE hF
   refine .vW [] (some ([], [2])) [(⟨#[109]⟩ : ByteArray).size + v10.size ≤ 9223372036854775807] ⟨h11, trivial⟩ ?_ ?_
   cases hF
   exact .xR hE [] [] (by kernel_rfl)
   all_goals kernel_rfl
  ·
   refine .block ?_
   refine WT.xL (fun s7 => ⟨[(0, iI s7.1), (2, sS (⟨#[]⟩ : ByteArray)), (3, sS s7.2)], []⟩) (l := fun n x => F_laws_markText_L3 k (F_laws_markText_J2 k) n x) (r := r) [.pick [] [0, 2, 3]] (a1, (⟨#[]⟩ : ByteArray)) k hF (fun _ => rfl) (fun nL3 s7 ih hF => ?_) ?_
   dsimp only [F_laws_markText_L3] at hF
   refine .seq ?_
   refine .seq ?_
   refine .xW [] (some ([], [0, 2, 3, 7])) ⟨[(0, iI s7.1), (2, sS (⟨#[]⟩ : ByteArray)), (3, sS s7.2), (7, bB (decide (s7.1 > 0)))], []⟩ [] trivial ?_ ?_
   rcases condE hF with ⟨he, hF⟩ | ⟨he, hF⟩
   ·
    refine .xT he ?_ ?_
    refine .skip ?_
    refine .block ?_
    refine .seq ?_
    obtain ⟨h16, hF⟩ := iteE hF
    refine .vW [.el tyU 0] (some ([], [0, 2, 3])) [(10 : Int) ≠ 0, (bstr [IntKind.u8.wrap (w64 (48 + (Int.tmod s7.1 10)))]).size + s7.2.size ≤ 9223372036854775807] ⟨by decide, h16, trivial⟩ ?_ ?_
    refine .vW [] (some ([], [0, 2, 3])) [(10 : Int) ≠ 0] ⟨by decide, trivial⟩ ?_ ?_
    refine .inBlock ?_
    exact .xS [.pick [] [0, 2, 3]] (ih (w64 (Int.tdiv s7.1 10), (bstr [IntKind.u8.wrap (w64 (48 + (Int.tmod s7.1 10)))]) ++ s7.2) hF) (by kernel_rfl)
    all_goals kernel_rfl
   ·
    refine .xF he ?_ ?_
    refine .exit rfl ?_
    exact .xS [.pick [] [2, 3]] (hJJ2 (s7.2) hF) (by kernel_rfl)
    all_goals kernel_rfl
   all_goals kernel_rfl
  all_goals kernel_rfl
 all_goals kernel_rfl
theorem S_laws_markActionS_fa3f (k : Nat) (a1 : Int) (a2 : (List (Int × (Int × ByteArray)))) (r : Int × (List (Int × (Int × ByteArray)))) (hF : F_laws_markActionS_fa3f k a1 a2 = some r) : Spec Tryz.prog 27 [sL 0, iI a1] [.row tyIIS a2] (iI r.1) [.row tyIIS r.2] := by
 refine Spec.of 1 35 Tryz.func27 rfl rfl (Nat.le_of_ble_eq_true rfl) rfl fun w0 S0 Z0 M0 R0 hE => ?_
 unfold F_laws_markActionS_fa3f at hF
 refine .seq ?_
 refine .vW [] none [] trivial ?_ ?_
 refine .seq ?_
 refine .seq ?_
 refine .xW [] none ⟨[(5, iI 0), (4, iI 0), (0, sL 0), (1, iI a1)], [.row tyIIS a2]⟩ [] trivial ?_ ?_
 refine WT.join (f := fun v17 => F_laws_markActionS_fa3f_J1 k v17) (r := r) (S := fun v17 => ⟨[(1, iI v17.1), (4, iI 0)], [.row tyIIS v17.2]⟩) (fun v17 hF => ?_) (fun hJJ1 => ?_)
 ·
  unfold F_laws_markActionS_fa3f_J1 at hF
  refine .seq ?_
  refine .vW [] (some ([0], [4])) [] trivial ?_ ?_
  cases hF
  exact .xR hE [] [0] (by kernel_rfl)
  all_goals kernel_rfl
 ·
  refine .block ?_
  refine WT.xL (fun s10 => ⟨[(0, sL 0), (1, iI s10.1), (4, iI 0), (5, iI s10.2.1)], [.row tyIIS s10.2.2]⟩) (l := fun n x => F_laws_markActionS_fa3f_L2 k (F_laws_markActionS_fa3f_J1 k) n x) (r := r) [.pick [0] [0, 1, 4, 5]] (a1, 0, a2) k hF (fun _ => rfl) (fun nL2 s10 ih hF => ?_) ?_
  dsimp only [F_laws_markActionS_fa3f_L2] at hF
  refine .seq ?_
  refine .seq ?_
  refine .xW [] (some ([0], [0, 1, 4, 5, 9])) ⟨[(0, sL 0), (1, iI s10.1), (4, iI 0), (5, iI s10.2.1), (9, bB (decide (s10.2.1 < (s10.2.2.length : Int))))], [.row tyIIS s10.2.2]⟩ [] trivial ?_ ?_
  rcases condE hF with ⟨he, hF⟩ | ⟨he, hF⟩
  ·
   refine .xT he ?_ ?_
   refine .skip ?_
   refine .seq ?_
   refine .block ?_
   refine .seq ?_
   obtain ⟨x13, h22, hF⟩ := bindE hF
   refine .vW [.el tyIIS x13] (some ([0], [0, 1, 4, 5])) [at? s10.2.2 s10.2.1 = some x13] ⟨h22, trivial⟩ ?_ ?_
   refine .seq ?_
   refine .vW [] (some ([0], [0, 1, 4, 5])) [] trivial ?_ ?_
   refine .seq ?_
   obtain ⟨x14, h23, hF⟩ := bindE hF
   refine .vW [.el tyIIS x14] (some ([0], [0, 1, 4, 5])) [at? (s10.2.2.set ((s10.2.1).toNat) (s10.1, x13.2)) s10.2.1 = some x14] ⟨h23, trivial⟩ ?_ ?_
   refine .seq ?_
   refine .xW [] (some ([0], [0, 1, 4, 5])) ⟨[(0, sL 0), (1, iI (w64 ((w64 (s10.1 + 1)) + 1))), (4, iI 0), (5, iI s10.2.1)], [.row tyIIS ((s10.2.2.set ((s10.2.1).toNat) (s10.1, x13.2)).set ((s10.2.1).toNat) (x14.1, (w64 (s10.1 + 1), x14.2.2)))]⟩ [] trivial ?_ ?_
   refine .seq ?_
   refine .uB [0, 1, 2] [3, 4, 5, 6] [] [] rfl trivial ?_ ?_
   obtain ⟨r15, h25, hF⟩ := bindE hF
   refine .uC false [] (S_laws_markText k (w64 ((w64 (s10.1 + 1)) + 1)) r15 h25) rfl ?_ ?_
   obtain ⟨x16, h24, hF⟩ := bindE hF
   refine .vE [.el tyIIS x16] (some ([0], [0, 1, 4, 5])) [at? ((s10.2.2.set ((s10.2.1).toNat) (s10.1, x13.2)).set ((s10.2.1).toNat) (x14.1, (w64 (s10.1 + 1), x14.2.2))) s10.2.1 = some x16] ⟨h24, trivial⟩ ?_ ?_
   refine .vW [] (some ([0], [0, 1, 4, 5])) [] trivial ?_ ?_
   refine .inBlock ?_
   refine .vW [] (some ([0], [0, 1, 4, 5])) [] trivial ?_ ?_
   exact .xS [.pick [0] [0, 1, 4, 5]] (ih (w64 ((w64 ((w64 (s10.1 + 1)) + 1)) + 1), w64 (s10.2.1 + 1), ((s10.2.2.set ((s10.2.1).toNat) (s10.1, x13.2)).set ((s10.2.1).toNat) (x14.1, (w64 (s10.1 + 1), x14.2.2))).set ((s10.2.1).toNat) (x16.1, (x16.2.1, r15))) hF) (by kernel_rfl)
   all_goals kernel_rfl
  ·
   refine .xF he ?_ ?_
   refine .exit rfl ?_
   exact .xS [.pick [0] [1, 4]] (hJJ1 (s10.1, s10.2.2) hF) (by kernel_rfl)
   all_goals kernel_rfl
  all_goals kernel_rfl
 all_goals kernel_rfl
theorem S_laws_heldNodeS (k : Nat) (a1 : (List (Int × (Int × Int)))) (a2 : Int) (r : Int) (hF : F_laws_heldNodeS k a1 a2 = some r) : Spec Tryz.prog 91 [vV none tyIII a1, iI a2] [] (iI r) [] := by
 refine Spec.of 0 40 Tryz.func91 rfl rfl (Nat.le_of_ble_eq_true rfl) rfl fun w0 S0 Z0 M0 R0 hE => ?_
 unfold F_laws_heldNodeS at hF
 refine .seq ?_
 refine .vW [] none [] trivial ?_ ?_
 refine .seq ?_
 refine .seq ?_
 refine .xW [] none ⟨[(5, iI 0), (4, iI 0), (0, vV none tyIII a1), (1, iI a2)], []⟩ [] trivial ?_ ?_
 refine WT.join (f := fun v21 => F_laws_heldNodeS_J1 k v21) (r := r) (S := fun v21 => ⟨[(1, iI v21), (4, iI 0)], []⟩) (fun v21 hF => ?_) (fun hJJ1 => ?_)
 ·
  unfold F_laws_heldNodeS_J1 at hF
  refine .seq ?_
  refine .vW [] (some ([], [4])) [] trivial ?_ ?_
  cases hF
  exact .xR hE [] [] (by kernel_rfl)
  all_goals kernel_rfl
 ·
  refine .block ?_
  refine WT.xL (fun s12 => ⟨[(0, vV none tyIII a1), (1, iI s12.1), (4, iI 0), (5, iI s12.2)], []⟩) (l := fun n x => F_laws_heldNodeS_L2 k a1 (F_laws_heldNodeS_J1 k) n x) (r := r) [.pick [] [0, 1, 4, 5]] (a2, 0) k hF (fun _ => rfl) (fun nL2 s12 ih hF => ?_) ?_
  dsimp only [F_laws_heldNodeS_L2] at hF
  refine .seq ?_
  refine .seq ?_
  refine .xW [] (some ([], [0, 1, 4, 5, 9])) ⟨[(0, vV none tyIII a1), (1, iI s12.1), (4, iI 0), (5, iI s12.2), (9, bB (decide (s12.2 < (a1.length : Int))))], []⟩ [] trivial ?_ ?_
  rcases condE hF with ⟨he, hF⟩ | ⟨he, hF⟩
  ·
   refine .xT he ?_ ?_
   refine .skip ?_
   refine .seq ?_
   refine .block ?_
   refine .seq ?_
   refine .seq ?_
   obtain ⟨x15, h25, hF⟩ := bindE hF
   refine .xW [.el tyIII x15] (some ([], [0, 1, 4, 5, 18])) ⟨[(0, vV none tyIII a1), (1, iI s12.1), (4, iI 0), (5, iI s12.2), (18, bB (x15.1 != s12.1))], []⟩ [at? a1 s12.2 = some x15] ⟨h25, trivial⟩ ?_ ?_
   rcases condE hF with ⟨he, hF⟩ | ⟨he, hF⟩
   ·
    refine .xT he ?_ ?_
    refine .seq ?_
    refine .vW [] (some ([], [0, 1, 4, 5])) [] trivial ?_ ?_
    cases hF
    exact .xR hE [] [] (by kernel_rfl)
    all_goals kernel_rfl
   ·
    refine .xF he ?_ ?_
    refine .skip ?_
    refine .seq ?_
    refine .vW [] (some ([], [0, 1, 4, 5])) [] trivial ?_ ?_
    refine .seq ?_
    refine .seq ?_
    obtain ⟨x17, h26, hF⟩ := bindE hF
    refine .xW [.el tyIII x17] (some ([], [0, 1, 4, 5, 27])) ⟨[(0, vV none tyIII a1), (1, iI (w64 (s12.1 + 1))), (4, iI 0), (5, iI s12.2), (27, bB (x17.2.1 != (w64 (s12.1 + 1))))], []⟩ [at? a1 s12.2 = some x17] ⟨h26, trivial⟩ ?_ ?_
    rcases condE hF with ⟨he, hF⟩ | ⟨he, hF⟩
    ·
     refine .xT he ?_ ?_
     refine .seq ?_
     refine .vW [] (some ([], [0, 1, 4, 5])) [] trivial ?_ ?_
     cases hF
     exact .xR hE [] [] (by kernel_rfl)
     all_goals kernel_rfl
    ·
     refine .xF he ?_ ?_
     refine .skip ?_
     refine .seq ?_
     refine .vW [] (some ([], [0, 1, 4, 5])) [] trivial ?_ ?_
     refine .seq ?_
     refine .seq ?_
     obtain ⟨x19, h27, hF⟩ := bindE hF
     refine .xW [.el tyIII x19] (some ([], [0, 1, 4, 5, 36])) ⟨[(0, vV none tyIII a1), (1, iI (w64 ((w64 (s12.1 + 1)) + 1))), (4, iI 0), (5, iI s12.2), (36, bB (x19.2.2 != (w64 ((w64 (s12.1 + 1)) + 1))))], []⟩ [at? a1 s12.2 = some x19] ⟨h27, trivial⟩ ?_ ?_
     rcases condE hF with ⟨he, hF⟩ | ⟨he, hF⟩
     ·
      refine .xT he ?_ ?_
      refine .seq ?_
      refine .vW [] (some ([], [0, 1, 4, 5])) [] trivial ?_ ?_
      cases hF
      exact .xR hE [] [] (by kernel_rfl)
      all_goals kernel_rfl
     ·
      refine .xF he ?_ ?_
      refine .skip ?_
      refine .vW [] (some ([], [0, 1, 4, 5])) [] trivial ?_ ?_
      refine .inBlock ?_
      refine .vW [] (some ([], [0, 1, 4, 5])) [] trivial ?_ ?_
      exact .xS [.pick [] [0, 1, 4, 5]] (ih (w64 ((w64 ((w64 (s12.1 + 1)) + 1)) + 1), w64 (s12.2 + 1)) hF) (by kernel_rfl)
      all_goals kernel_rfl
     all_goals kernel_rfl
    all_goals kernel_rfl
   all_goals kernel_rfl
  ·
   refine .xF he ?_ ?_
   refine .exit rfl ?_
   exact .xS [.pick [] [1, 4]] (hJJ1 (s12.1) hF) (by kernel_rfl)
   all_goals kernel_rfl
  all_goals kernel_rfl
 all_goals kernel_rfl
theorem S_laws_heldPool (k : Nat) (a1 : (List (Int × (Int × Int)))) (a2 : Int) (r : Int) (hF : F_laws_heldPool k a1 a2 = some r) : Spec Tryz.prog 57 [aG [.vw none tyIII a1], iI a2] [] (iI r) [] := by
 refine Spec.of 0 12 Tryz.func57 rfl rfl (Nat.le_of_ble_eq_true rfl) rfl fun w0 S0 Z0 M0 R0 hE => ?_
 unfold F_laws_heldPool at hF
 refine .seq ?_
 refine .xW [] (some ([0], [1, 2, 4])) ⟨[(1, iI a2), (2, pT 0 0), (4, iI 0)], [.box [.vw none tyIII a1]]⟩ [] trivial ?_ ?_
 refine .seq ?_
 refine .uB [0, 1, 2] [3, 4] [] [] rfl trivial ?_ ?_
 obtain ⟨r1, h3, hF⟩ := bindE hF
 refine .uC false [] (S_laws_heldNodeS k a1 a2 r1 h3) rfl ?_ ?_
 refine .vE [] (some ([], [1, 4])) [] trivial ?_ ?_
 refine .seq ?_
 refine .seq ?_
 refine .xW [] (some ([], [1, 4, 10])) ⟨[(1, iI r1), (4, iI 0), (10, bB (decide (r1 < 0)))], []⟩ [] trivial ?_ ?_
 rcases condE hF with ⟨he, hF⟩ | ⟨he, hF⟩
 ·
  refine .xT he ?_ ?_
  refine .seq ?_
  refine .vW [] (some ([], [1, 4])) [] trivial ?_ ?_
  cases hF
  exact .xR hE [] [] (by kernel_rfl)
  all_goals kernel_rfl
 ·
  refine .xF he ?_ ?_
  refine .skip ?_
  refine .seq ?_
  refine .vW [] (some ([], [4])) [] trivial ?_ ?_
  cases hF
  exact .xR hE [] [] (by kernel_rfl)
  all_goals kernel_rfl
 all_goals kernel_rfl
theorem S_laws_heldIntS (k : Nat) (a1 : (List Int)) (a2 : Int) (r : Int) (hF : F_laws_heldIntS k a1 a2 = some r) : Spec Tryz.prog 58 [vV none tyI a1, iI a2] [] (iI r) [] := by
 refine Spec.of 0 21 Tryz.func58 rfl rfl (Nat.le_of_ble_eq_true rfl) rfl fun w0 S0 Z0 M0 R0 hE => ?_
 unfold F_laws_heldIntS at hF
 refine .seq ?_
 refine .vW [] none [] trivial ?_ ?_
 refine .seq ?_
 refine .seq ?_
 refine .xW [] none ⟨[(5, iI 0), (4, iI 0), (0, vV none tyI a1), (1, iI a2)], []⟩ [] trivial ?_ ?_
 refine WT.join (f := fun v13 => F_laws_heldIntS_J1 k v13) (r := r) (S := fun v13 => ⟨[(1, iI v13), (4, iI 0)], []⟩) (fun v13 hF => ?_) (fun hJJ1 => ?_)
 ·
  unfold F_laws_heldIntS_J1 at hF
  refine .seq ?_
  refine .vW [] (some ([], [4])) [] trivial ?_ ?_
  cases hF
  exact .xR hE [] [] (by kernel_rfl)
  all_goals kernel_rfl
 ·
  refine .block ?_
  refine WT.xL (fun s8 => ⟨[(0, vV none tyI a1), (1, iI s8.1), (4, iI 0), (5, iI s8.2)], []⟩) (l := fun n x => F_laws_heldIntS_L2 k a1 (F_laws_heldIntS_J1 k) n x) (r := r) [.pick [] [0, 1, 4, 5]] (a2, 0) k hF (fun _ => rfl) (fun nL2 s8 ih hF => ?_) ?_
  dsimp only [F_laws_heldIntS_L2] at hF
  refine .seq ?_
  refine .seq ?_
  refine .xW [] (some ([], [0, 1, 4, 5, 9])) ⟨[(0, vV none tyI a1), (1, iI s8.1), (4, iI 0), (5, iI s8.2), (9, bB (decide (s8.2 < (a1.length : Int))))], []⟩ [] trivial ?_ ?_
  rcases condE hF with ⟨he, hF⟩ | ⟨he, hF⟩
  ·
   refine .xT he ?_ ?_
   refine .skip ?_
   refine .seq ?_
   refine .block ?_
   refine .seq ?_
   refine .seq ?_
   obtain ⟨x11, h15, hF⟩ := bindE hF
   refine .xW [.el tyI x11] (some ([], [0, 1, 4, 5, 17])) ⟨[(0, vV none tyI a1), (1, iI s8.1), (4, iI 0), (5, iI s8.2), (17, bB (x11 != s8.1))], []⟩ [at? a1 s8.2 = some x11] ⟨h15, trivial⟩ ?_ ?_
   rcases condE hF with ⟨he, hF⟩ | ⟨he, hF⟩
   ·
    refine .xT he ?_ ?_
    refine .seq ?_
    refine .vW [] (some ([], [0, 1, 4, 5])) [] trivial ?_ ?_
    cases hF
    exact .xR hE [] [] (by kernel_rfl)
    all_goals kernel_rfl
   ·
    refine .xF he ?_ ?_
    refine .skip ?_
    refine .vW [] (some ([], [0, 1, 4, 5])) [] trivial ?_ ?_
    refine .inBlock ?_
    refine .vW [] (some ([], [0, 1, 4, 5])) [] trivial ?_ ?_
    exact .xS [.pick [] [0, 1, 4, 5]] (ih (w64 (s8.1 + 1), w64 (s8.2 + 1)) hF) (by kernel_rfl)
    all_goals kernel_rfl
   all_goals kernel_rfl
  ·
   refine .xF he ?_ ?_
   refine .exit rfl ?_
   exact .xS [.pick [] [1, 4]] (hJJ1 (s8.1) hF) (by kernel_rfl)
   all_goals kernel_rfl
  all_goals kernel_rfl
 all_goals kernel_rfl
theorem S_laws_heldStream (k : Nat) (a1 : (List (Int × (Int × Int)))) (a2 : (List Int)) (a3 : Int) (a4 : Int) (a5 : Int) (a6 : Bool) (a7 : Int) (a8 : Int) (a9 : Int) (a10 : Bool) (a11 : (List Int)) (a12 : (List Int)) (a13 : Int) (r : Int) (hF : F_laws_heldStream k a1 a2 a3 a4 a5 a6 a7 a8 a9 a10 a11 a12 a13 = some r) : Spec Tryz.prog 22 [aG [.vw none tyIII a1, .vw none tyI a2, ci a3, ci a4, ci a5, .bool a6, ci a7, ci a8, ci a9, .bool a10, .vw none tyI a11, .vw none tyI a12], iI a13] [] (iI r) [] := by
 refine Spec.of 0 30 Tryz.func22 rfl rfl (Nat.le_of_ble_eq_true rfl) rfl fun w0 S0 Z0 M0 R0 hE => ?_
 unfold F_laws_heldStream at hF
 refine .seq ?_
 refine .xW [] (some ([0], [1, 2, 4])) ⟨[(1, iI a13), (2, pT 0 0), (4, iI 0)], [.box [.vw none tyIII a1, .vw none tyI a2, ci a3, ci a4, ci a5, .bool a6, ci a7, ci a8, ci a9, .bool a10, .vw none tyI a11, .vw none tyI a12]]⟩ [] trivial ?_ ?_
 refine .seq ?_
 refine .uB [0, 1, 2] [3, 4] [] [] rfl trivial ?_ ?_
 obtain ⟨r1, h12, hF⟩ := bindE hF
 refine .uC false [] (S_laws_heldPool k a1 a13 r1 h12) rfl ?_ ?_
 refine .vE [] (some ([0], [1, 2, 4])) [] trivial ?_ ?_
 refine .seq ?_
 refine .seq ?_
 refine .xW [] (some ([0], [1, 2, 4, 10])) ⟨[(1, iI r1), (2, pT 0 0), (4, iI 0), (10, bB (decide (r1 < 0)))], [.box [.vw none tyIII a1, .vw none tyI a2, ci a3, ci a4, ci a5, .bool a6, ci a7, ci a8, ci a9, .bool a10, .vw none tyI a11, .vw none tyI a12]]⟩ [] trivial ?_ ?_
 rcases condE hF with ⟨he, hF⟩ | ⟨he, hF⟩
 ·
  refine .xT he ?_ ?_
  refine .seq ?_
  refine .vW [] (some ([0], [1, 2, 4])) [] trivial ?_ ?_
  cases hF
  exact .xR hE [] [] (by kernel_rfl)
  all_goals kernel_rfl
 ·
  refine .xF he ?_ ?_
  refine .skip ?_
  refine .seq ?_
  refine .uB [0, 1, 2] [3, 4] [] [] rfl trivial ?_ ?_
  obtain ⟨r3, h11, hF⟩ := bindE hF
  refine .uC false [] (S_laws_heldIntS k a2 r1 r3 h11) rfl ?_ ?_
  refine .vE [] (some ([0], [1, 2, 4])) [] trivial ?_ ?_
  refine .seq ?_
  refine .seq ?_
  refine .xW [] (some ([0], [1, 2, 4, 16])) ⟨[(1, iI r3), (2, pT 0 0), (4, iI 0), (16, bB (decide (r3 < 0)))], [.box [.vw none tyIII a1, .vw none tyI a2, ci a3, ci a4, ci a5, .bool a6, ci a7, ci a8, ci a9, .bool a10, .vw none tyI a11, .vw none tyI a12]]⟩ [] trivial ?_ ?_
  rcases condE hF with ⟨he, hF⟩ | ⟨he, hF⟩
  ·
   refine .xT he ?_ ?_
   refine .seq ?_
   refine .vW [] (some ([0], [1, 2, 4])) [] trivial ?_ ?_
   cases hF
   exact .xR hE [] [] (by kernel_rfl)
   all_goals kernel_rfl
  ·
   refine .xF he ?_ ?_
   refine .skip ?_
   refine .seq ?_
   refine .uB [0, 1, 2] [3, 4] [] [] rfl trivial ?_ ?_
   obtain ⟨r5, h10, hF⟩ := bindE hF
   refine .uC false [] (S_laws_heldIntS k a11 r3 r5 h10) rfl ?_ ?_
   refine .vE [] (some ([0], [1, 2, 4])) [] trivial ?_ ?_
   refine .seq ?_
   refine .seq ?_
   refine .xW [] (some ([0], [1, 2, 4, 22])) ⟨[(1, iI r5), (2, pT 0 0), (4, iI 0), (22, bB (decide (r5 < 0)))], [.box [.vw none tyIII a1, .vw none tyI a2, ci a3, ci a4, ci a5, .bool a6, ci a7, ci a8, ci a9, .bool a10, .vw none tyI a11, .vw none tyI a12]]⟩ [] trivial ?_ ?_
   rcases condE hF with ⟨he, hF⟩ | ⟨he, hF⟩
   ·
    refine .xT he ?_ ?_
    refine .seq ?_
    refine .vW [] (some ([0], [1, 2, 4])) [] trivial ?_ ?_
    cases hF
    exact .xR hE [] [] (by kernel_rfl)
    all_goals kernel_rfl
   ·
    refine .xF he ?_ ?_
    refine .skip ?_
    refine .seq ?_
    refine .uB [0, 1, 2] [3, 4] [] [] rfl trivial ?_ ?_
    obtain ⟨r7, h9, hF⟩ := bindE hF
    refine .uC false [] (S_laws_heldIntS k a12 r5 r7 h9) rfl ?_ ?_
    refine .vE [] (some ([], [1, 4])) [] trivial ?_ ?_
    refine .seq ?_
    refine .seq ?_
    refine .xW [] (some ([], [1, 4, 28])) ⟨[(1, iI r7), (4, iI 0), (28, bB (decide (r7 < 0)))], []⟩ [] trivial ?_ ?_
    rcases condE hF with ⟨he, hF⟩ | ⟨he, hF⟩
    ·
     refine .xT he ?_ ?_
     refine .seq ?_
     refine .vW [] (some ([], [1, 4])) [] trivial ?_ ?_
     cases hF
     exact .xR hE [] [] (by kernel_rfl)
     all_goals kernel_rfl
    ·
     refine .xF he ?_ ?_
     refine .skip ?_
     refine .seq ?_
     refine .vW [] (some ([], [4])) [] trivial ?_ ?_
     cases hF
     exact .xR hE [] [] (by kernel_rfl)
     all_goals kernel_rfl
    all_goals kernel_rfl
   all_goals kernel_rfl
  all_goals kernel_rfl
 all_goals kernel_rfl
theorem S_laws_FnExactStreamRun (k : Nat) (a1 : (List (Int × (Int × Int)))) (a2 : (List Int)) (a3 : Int) (a4 : Int) (a5 : Int) (a6 : Bool) (a7 : Int) (a8 : Int) (a9 : Int) (a10 : Bool) (a11 : (List Int)) (a12 : (List Int)) (a13 : (List (Int × (Int × ByteArray)))) (r : Bool) (hF : F_laws_FnExactStreamRun k a1 a2 a3 a4 a5 a6 a7 a8 a9 a10 a11 a12 a13 = some r) : Spec Tryz.prog 5 [aG [.vw none tyIII a1, .vw none tyI a2, ci a3, ci a4, ci a5, .bool a6, ci a7, ci a8, ci a9, .bool a10, .vw none tyI a11, .vw none tyI a12], vV none tyIIS a13] [] (bB r) [] := by
 refine Spec.of 0 119 Tryz.func5 rfl rfl (Nat.le_of_ble_eq_true rfl) rfl fun w0 S0 Z0 M0 R0 hE => ?_
 unfold F_laws_FnExactStreamRun at hF
 refine .seq ?_
 refine .vW [] (some ([0], [1, 2, 4])) [] trivial ?_ ?_
 refine .seq ?_
 refine .xW [] none ⟨[(5, iI 1048576), (1, vV none tyIIS a13), (2, pT 0 0), (4, bB false)], [.box [.vw none tyIII a1, .vw none tyI a2, ci a3, ci a4, ci a5, .bool a6, ci a7, ci a8, ci a9, .bool a10, .vw none tyI a11, .vw none tyI a12]]⟩ [] trivial ?_ ?_
 refine .seq ?_
 refine .uB [0, 1] [2, 3] [] [] rfl trivial ?_ ?_
 obtain ⟨r1, h67, hF⟩ := bindE hF
 refine .uC false [] (S_laws_szStream k a1 a2 a3 a4 a5 a6 a7 a8 a9 a10 a11 a12 1048576 r1 h67) rfl ?_ ?_
 refine .vE [] (some ([0], [1, 2, 4, 5])) [] trivial ?_ ?_
 refine .seq ?_
 refine .seq ?_
 refine .xW [] (some ([0], [1, 2, 4, 5, 21])) ⟨[(1, vV none tyIIS a13), (2, pT 0 0), (4, bB false), (5, iI r1), (21, bB (decide (r1 < 0)))], [.box [.vw none tyIII a1, .vw none tyI a2, ci a3, ci a4, ci a5, .bool a6, ci a7, ci a8, ci a9, .bool a10, .vw none tyI a11, .vw none tyI a12]]⟩ [] trivial ?_ ?_
 rcases condE hF with ⟨he, hF⟩ | ⟨he, hF⟩
 ·
  refine .xT he ?_ ?_
  refine .seq ?_
  refine .vW [] (some ([0], [1, 2, 4, 5])) [] trivial ?_ ?_
  cases hF
  exact .xR hE [] [] (by kernel_rfl)
  all_goals kernel_rfl
 ·
  refine .xF he ?_ ?_
  refine .skip ?_
  refine .seq ?_
  refine .uB [0, 1] [2, 3] [] [] rfl trivial ?_ ?_
  obtain ⟨r3, h66, hF⟩ := bindE hF
  refine .uC false [] (S_laws_szActionS k a13 r1 r3 h66) rfl ?_ ?_
  refine .vE [] (some ([0], [1, 2, 4, 5])) [] trivial ?_ ?_
  refine .seq ?_
  refine .seq ?_
  refine .xW [] (some ([0], [1, 2, 4, 26])) ⟨[(1, vV none tyIIS a13), (2, pT 0 0), (4, bB false), (26, bB (decide (r3 < 0)))], [.box [.vw none tyIII a1, .vw none tyI a2, ci a3, ci a4, ci a5, .bool a6, ci a7, ci a8, ci a9, .bool a10, .vw none tyI a11, .vw none tyI a12]]⟩ [] trivial ?_ ?_
  rcases condE hF with ⟨he, hF⟩ | ⟨he, hF⟩
  ·
   refine .xT he ?_ ?_
   refine .seq ?_
   refine .vW [] (some ([0], [1, 2, 4])) [] trivial ?_ ?_
   cases hF
   exact .xR hE [] [] (by kernel_rfl)
   all_goals kernel_rfl
  ·
   refine .xF he ?_ ?_
   refine .skip ?_
   refine .seq ?_
   refine .uB [0] [1, 2, 3, 4, 5, 6, 7, 8, 9, 10] [] [] rfl trivial ?_ ?_
   obtain ⟨r5, h65, hF⟩ := bindE hF
   refine .uC false [] (S_laws_toStream k a1 a2 a3 a4 a5 a6 a7 a8 a9 a10 a11 a12 r5 h65) rfl ?_ ?_
   refine .uN [2] [3, 4, 5, 6, 7, 8, 9, 10] [] [] rfl trivial ?_ ?_
   obtain ⟨r6, h64, hF⟩ := bindE hF
   refine .uC false [] (S_laws_toActionS k a13 r6 h64) rfl ?_ ?_
   obtain ⟨r7, h63, hF⟩ := bindE hF
   refine .uC true [] (S_spec_StreamRun k r5.1 r5.2.1 a3 a4 a5 a6 a7 a8 a9 a10 r5.2.2.1 r5.2.2.2 r6 r7 h63) rfl ?_ ?_
   refine .vE [] (some ([0, 10, 6, 7, 8, 9], [1, 2, 4, 6, 7])) [] trivial ?_ ?_
   refine .seq ?_
   refine .uB [0] [1, 2, 3] [] [] rfl trivial ?_ ?_
   obtain ⟨r8, h62, hF⟩ := bindE hF
   refine .uC false [] (S_laws_toStream k a1 a2 a3 a4 a5 a6 a7 a8 a9 a10 a11 a12 r8 h62) rfl ?_ ?_
   refine .vE [] (some ([0, 1, 10, 2, 3, 4, 5, 6, 7, 8, 9], [1, 2, 4, 6, 7, 8])) [] trivial ?_ ?_
   refine .seq ?_
   refine .uB [0] [1, 2] [] [] rfl trivial ?_ ?_
   obtain ⟨r9, h61, hF⟩ := bindE hF
   refine .uC false [] (S_laws_toActionS k a13 r9 h61) rfl ?_ ?_
   refine .vE [] (some ([0, 1, 2, 11, 3, 4, 5, 6, 7, 8, 9, 10], [1, 2, 4, 6, 7, 8, 9])) [] trivial ?_ ?_
   refine .seq ?_
   refine .uB [0, 1] [2, 3, 4, 5, 6, 7, 8] [] [] rfl trivial ?_ ?_
   obtain ⟨r10, h60, hF⟩ := bindE hF
   refine .uC true [] (S_impl_StreamRun k r8.1 r8.2.1 a3 a4 a5 a6 a7 a8 a9 a10 r8.2.2.1 r8.2.2.2 r9 r10 h60) rfl ?_ ?_
   refine .xE [] (some ([0, 1, 2, 3, 16, 4, 5, 6, 7, 8, 9, 10, 11, 12, 13, 14, 15], [1, 2, 4, 6, 7, 8, 9, 10, 11])) ⟨[(1, vV none tyIIS a13), (2, pT 0 0), (4, bB false), (6, pT 1 0), (7, iI r7.2.2.2.2.2.2.2.2.1), (8, pT 2 0), (9, sL 3), (10, pT 4 0), (11, iI r10.2.2.2.2.2.2.2.2.1)], [.box [.vw none tyIII a1, .vw none tyI a2, ci a3, ci a4, ci a5, .bool a6, ci a7, ci a8, ci a9, .bool a10, .vw none tyI a11, .vw none tyI a12], .box [.sl 5, .sl 6, ci r7.1, ci r7.2.1, ci r7.2.2.1, .bool r7.2.2.2.1, ci r7.2.2.2.2.1, ci r7.2.2.2.2.2.1, ci r7.2.2.2.2.2.2.1, .bool r7.2.2.2.2.2.2.2.1, .sl 7, .sl 8], .box [.sl 9, .sl 10, ci a3, ci a4, ci a5, .bool a6, ci a7, ci a8, ci a9, .bool a10, .sl 11, .sl 12], .row tyIIS r9, .box [.sl 13, .sl 14, ci r10.1, ci r10.2.1, ci r10.2.2.1, .bool r10.2.2.2.1, ci r10.2.2.2.2.1, ci r10.2.2.2.2.2.1, ci r10.2.2.2.2.2.2.1, .bool r10.2.2.2.2.2.2.2.1, .sl 15, .sl 16], .row tyIII r7.2.2.2.2.2.2.2.2.2.1, .row tyI r7.2.2.2.2.2.2.2.2.2.2.1, .row tyI r7.2.2.2.2.2.2.2.2.2.2.2.1, .row tyI r7.2.2.2.2.2.2.2.2.2.2.2.2, .row tyIII r8.1, .row tyI r8.2.1, .row tyI r8.2.2.1, .row tyI r8.2.2.2, .row tyIII r10.2.2.2.2.2.2.2.2.2.1, .row tyI r10.2.2.2.2.2.2.2.2.2.2.1, .row tyI r10.2.2.2.2.2.2.2.2.2.2.2.1, .row tyI r10.2.2.2.2.2.2.2.2.2.2.2.2]⟩ [] trivial ?_ ?_
   refine .seq ?_
   refine .seq ?_
   refine WT.join (f := fun v13 => F_laws_FnExactStreamRun_J11 k a1 a2 a3 a4 a5 a6 a7 r7 a8 r8 a9 r9 a10 r10 a11 a12 a13 v13) (r := r) (S := fun v13 => ⟨[(1, vV none tyIIS a13), (2, pT 0 0), (4, bB false), (6, pT 1 0), (7, iI r7.2.2.2.2.2.2.2.2.1), (8, pT 2 0), (9, sL 3), (10, pT 4 0), (11, iI r10.2.2.2.2.2.2.2.2.1), (53, bB v13)], [.box [.vw none tyIII a1, .vw none tyI a2, ci a3, ci a4, ci a5, .bool a6, ci a7, ci a8, ci a9, .bool a10, .vw none tyI a11, .vw none tyI a12], .box [.sl 5, .sl 6, ci r7.1, ci r7.2.1, ci r7.2.2.1, .bool r7.2.2.2.1, ci r7.2.2.2.2.1, ci r7.2.2.2.2.2.1, ci r7.2.2.2.2.2.2.1, .bool r7.2.2.2.2.2.2.2.1, .sl 7, .sl 8], .box [.sl 9, .sl 10, ci a3, ci a4, ci a5, .bool a6, ci a7, ci a8, ci a9, .bool a10, .sl 11, .sl 12], .row tyIIS r9, .box [.sl 13, .sl 14, ci r10.1, ci r10.2.1, ci r10.2.2.1, .bool r10.2.2.2.1, ci r10.2.2.2.2.1, ci r10.2.2.2.2.2.1, ci r10.2.2.2.2.2.2.1, .bool r10.2.2.2.2.2.2.2.1, .sl 15, .sl 16], .row tyIII r7.2.2.2.2.2.2.2.2.2.1, .row tyI r7.2.2.2.2.2.2.2.2.2.2.1, .row tyI r7.2.2.2.2.2.2.2.2.2.2.2.1, .row tyI r7.2.2.2.2.2.2.2.2.2.2.2.2, .row tyIII r8.1, .row tyI r8.2.1, .row tyI r8.2.2.1, .row tyI r8.2.2.2, .row tyIII r10.2.2.2.2.2.2.2.2.2.1, .row tyI r10.2.2.2.2.2.2.2.2.2.2.1, .row tyI r10.2.2.2.2.2.2.2.2.2.2.2.1, .row tyI r10.2.2.2.2.2.2.2.2.2.2.2.2]⟩) (fun v13 hF => ?_) (fun hJJ11 => ?_)
   ·
    unfold F_laws_FnExactStreamRun_J11 at hF
    rcases condE hF with ⟨he, hF⟩ | ⟨he, hF⟩
    ·
     refine .xT he ?_ ?_
     refine .seq ?_
     refine .vW [] (some ([0, 1, 2, 3, 4, 5, 6, 7, 8, 9, 10, 11, 12, 13, 14, 15, 16], [1, 2, 4, 6, 7, 8, 9, 10, 11])) [] trivial ?_ ?_
     cases hF
     exact .xR hE [] [] (by kernel_rfl)
     all_goals kernel_rfl
    ·
     refine .xF he ?_ ?_
     refine .skip ?_
     refine .seq ?_
     refine .seq ?_
     obtain ⟨r16, h18, hF⟩ := bindE hF
     obtain ⟨r17, h19, hF⟩ := bindE hF
     refine WA.xs [.cells 0 0 12, .cells 2 0 12] [] ?_ ?_
     refine WA.lem (pr' := [.cells 0 0 12, .cells 2 0 12]) (fuel' := 0) (listed' := #[true, true, true, true, true]) (st' := ⟨[(1, vV none tyIIS a13), (2, pT 0 0), (4, bB false), (6, pT 1 0), (7, iI r7.2.2.2.2.2.2.2.2.1), (8, pT 2 0), (9, sL 3), (10, pT 4 0), (11, iI r10.2.2.2.2.2.2.2.2.1), (58, bB (!r17))], [.box [.vw none tyIII a1, .vw none tyI a2, ci a3, ci a4, ci a5, .bool a6, ci a7, ci a8, ci a9, .bool a10, .vw none tyI a11, .vw none tyI a12], .box [.sl 5, .sl 6, ci r7.1, ci r7.2.1, ci r7.2.2.1, .bool r7.2.2.2.1, ci r7.2.2.2.2.1, ci r7.2.2.2.2.2.1, ci r7.2.2.2.2.2.2.1, .bool r7.2.2.2.2.2.2.2.1, .sl 7, .sl 8], .box [.sl 9, .sl 10, ci a3, ci a4, ci a5, .bool a6, ci a7, ci a8, ci a9, .bool a10, .sl 11, .sl 12], .row tyIIS r9, .box [.sl 13, .sl 14, ci r10.1, ci r10.2.1, ci r10.2.2.1, .bool r10.2.2.2.1, ci r10.2.2.2.2.1, ci r10.2.2.2.2.2.1, ci r10.2.2.2.2.2.2.1, .bool r10.2.2.2.2.2.2.2.1, .sl 15, .sl 16], .row tyIII r7.2.2.2.2.2.2.2.2.2.1, .row tyI r7.2.2.2.2.2.2.2.2.2.2.1, .row tyI r7.2.2.2.2.2.2.2.2.2.2.2.1, .row tyI r7.2.2.2.2.2.2.2.2.2.2.2.2, .row tyIII r8.1, .row tyI r8.2.1, .row tyI r8.2.2.1, .row tyI r8.2.2.2, .row tyIII r10.2.2.2.2.2.2.2.2.2.1, .row tyI r10.2.2.2.2.2.2.2.2.2.2.1, .row tyI r10.2.2.2.2.2.2.2.2.2.2.2.1, .row tyI r10.2.2.2.2.2.2.2.2.2.2.2.2]⟩) ?_ (fun A58 => ?_)
     ·
      refine WA.xD none ⟨[(1, vV none tyIIS a13), (2, pT 0 0), (4, bB false), (6, pT 1 0), (7, iI r7.2.2.2.2.2.2.2.2.1), (8, pT 2 0), (9, sL 3), (10, pT 4 0), (11, iI r10.2.2.2.2.2.2.2.2.1), (58, bB (!r17))], [.box [.vw none tyIII a1, .vw none tyI a2, ci a3, ci a4, ci a5, .bool a6, ci a7, ci a8, ci a9, .bool a10, .vw none tyI a11, .vw none tyI a12], .box [.sl 5, .sl 6, ci r7.1, ci r7.2.1, ci r7.2.2.1, .bool r7.2.2.2.1, ci r7.2.2.2.2.1, ci r7.2.2.2.2.2.1, ci r7.2.2.2.2.2.2.1, .bool r7.2.2.2.2.2.2.2.1, .sl 7, .sl 8], .box [.sl 9, .sl 10, ci a3, ci a4, ci a5, .bool a6, ci a7, ci a8, ci a9, .bool a10, .sl 11, .sl 12], .row tyIIS r9, .box [.sl 13, .sl 14, ci r10.1, ci r10.2.1, ci r10.2.2.1, .bool r10.2.2.2.1, ci r10.2.2.2.2.1, ci r10.2.2.2.2.2.1, ci r10.2.2.2.2.2.2.1, .bool r10.2.2.2.2.2.2.2.1, .sl 15, .sl 16], .row tyIII r7.2.2.2.2.2.2.2.2.2.1, .row tyI r7.2.2.2.2.2.2.2.2.2.2.1, .row tyI r7.2.2.2.2.2.2.2.2.2.2.2.1, .row tyI r7.2.2.2.2.2.2.2.2.2.2.2.2, .row tyIII r8.1, .row tyI r8.2.1, .row tyI r8.2.2.1, .row tyI r8.2.2.2, .row tyIII r10.2.2.2.2.2.2.2.2.2.1, .row tyI r10.2.2.2.2.2.2.2.2.2.2.1, .row tyI r10.2.2.2.2.2.2.2.2.2.2.2.1, .row tyI r10.2.2.2.2.2.2.2.2.2.2.2.2]⟩ ?_ ?_
      rcases condE hF with ⟨he, hF⟩ | ⟨he, hF⟩
      ·
       refine .xT he ?_ ?_
       refine .seq ?_
       refine .vW [] (some ([0, 1, 2, 3, 4, 5, 6, 7, 8, 9, 10, 11, 12, 13, 14, 15, 16], [1, 2, 4, 6, 7, 8, 9, 10, 11])) [] trivial ?_ ?_
       cases hF
       exact .xR hE [] [] (by kernel_rfl)
       all_goals kernel_rfl
      ·
       refine .xF he ?_ ?_
       refine .skip ?_
       refine .seq ?_
       refine .seq ?_
       refine .uB [0, 1] [2, 3, 4] [] [] rfl trivial ?_ ?_
       obtain ⟨r21, h55, hF⟩ := bindE hF
       refine .uC false [] (S_laws_toActionS k a13 r21 h55) rfl ?_ ?_
       obtain ⟨r22, h54, hF⟩ := bindE hF
       refine .uC true [] (S_laws_eqActionS k r9 r21 r22 h54) rfl ?_ ?_
       refine .xE [] (some ([0, 1, 2, 3, 4, 5, 6, 7, 8, 9, 10, 11, 12, 13, 14, 15, 16], [1, 2, 4, 6, 7, 8, 9, 10, 11, 63])) ⟨[(1, vV none tyIIS a13), (2, pT 0 0), (4, bB false), (6, pT 1 0), (7, iI r7.2.2.2.2.2.2.2.2.1), (8, pT 2 0), (9, sL 3), (10, pT 4 0), (11, iI r10.2.2.2.2.2.2.2.2.1), (63, bB (!r22))], [.box [.vw none tyIII a1, .vw none tyI a2, ci a3, ci a4, ci a5, .bool a6, ci a7, ci a8, ci a9, .bool a10, .vw none tyI a11, .vw none tyI a12], .box [.sl 5, .sl 6, ci r7.1, ci r7.2.1, ci r7.2.2.1, .bool r7.2.2.2.1, ci r7.2.2.2.2.1, ci r7.2.2.2.2.2.1, ci r7.2.2.2.2.2.2.1, .bool r7.2.2.2.2.2.2.2.1, .sl 7, .sl 8], .box [.sl 9, .sl 10, ci a3, ci a4, ci a5, .bool a6, ci a7, ci a8, ci a9, .bool a10, .sl 11, .sl 12], .row tyIIS r9, .box [.sl 13, .sl 14, ci r10.1, ci r10.2.1, ci r10.2.2.1, .bool r10.2.2.2.1, ci r10.2.2.2.2.1, ci r10.2.2.2.2.2.1, ci r10.2.2.2.2.2.2.1, .bool r10.2.2.2.2.2.2.2.1, .sl 15, .sl 16], .row tyIII r7.2.2.2.2.2.2.2.2.2.1, .row tyI r7.2.2.2.2.2.2.2.2.2.2.1, .row tyI r7.2.2.2.2.2.2.2.2.2.2.2.1, .row tyI r7.2.2.2.2.2.2.2.2.2.2.2.2, .row tyIII r8.1, .row tyI r8.2.1, .row tyI r8.2.2.1, .row tyI r8.2.2.2, .row tyIII r10.2.2.2.2.2.2.2.2.2.1, .row tyI r10.2.2.2.2.2.2.2.2.2.2.1, .row tyI r10.2.2.2.2.2.2.2.2.2.2.2.1, .row tyI r10.2.2.2.2.2.2.2.2.2.2.2.2]⟩ [] trivial ?_ ?_
       rcases condE hF with ⟨he, hF⟩ | ⟨he, hF⟩
       ·
        refine .xT he ?_ ?_
        refine .seq ?_
        refine .vW [] (some ([0, 1, 2, 3, 4, 5, 6, 7, 8, 9, 10, 11, 12, 13, 14, 15, 16], [1, 2, 4, 6, 7, 8, 9, 10, 11])) [] trivial ?_ ?_
        cases hF
        exact .xR hE [] [] (by kernel_rfl)
        all_goals kernel_rfl
       ·
        refine .xF he ?_ ?_
        refine .skip ?_
        refine .seq ?_
        refine .vW [] (some ([0, 1, 2, 3, 4, 5, 6, 7, 8, 9, 10, 11, 12, 13, 14, 15, 16], [1, 2, 4, 6, 7, 8, 9, 10, 11, 12])) [] trivial ?_ ?_
        refine .seq ?_
        refine .uB [0, 1] [2, 3] [] [] rfl trivial ?_ ?_
        obtain ⟨r24, h53, hF⟩ := bindE hF
        refine .uC false [.whole 9, .whole 10, .whole 11, .whole 12] (S_laws_markStream_3c3c k a3 a4 a5 a6 a7 a8 a9 a10 1 r8.1 r8.2.1 r8.2.2.1 r8.2.2.2 r24 h53) rfl ?_ ?_
        refine .vE [] (some ([0, 1, 3, 4, 5, 6, 7, 8, 13, 14, 15, 16], [1, 2, 4, 6, 7, 9, 10, 11, 12])) [] trivial ?_ ?_
        refine .seq ?_
        refine .uB [0, 1] [2, 3] [] [] rfl trivial ?_ ?_
        obtain ⟨r25, h52, hF⟩ := bindE hF
        refine .uC false [.whole 2] (S_laws_markActionS_fa3f k r24.1 r9 r25 h52) rfl ?_ ?_
        refine .vE [] (some ([0, 1, 3, 4, 5, 6, 7, 8, 9, 10, 11], [1, 2, 4, 6, 7, 10, 11, 12])) [] trivial ?_ ?_
        refine .seq ?_
        refine .seq ?_
        refine WT.join (f := fun v28 => F_laws_FnExactStreamRun_J26 k a1 a2 a3 a4 a5 a6 a7 r7 a8 a9 a10 r10 a11 a12 a13 v28) (r := r) (S := fun v28 => ⟨[(1, vV none tyIIS a13), (2, pT 0 0), (4, bB false), (6, pT 1 0), (7, iI r7.2.2.2.2.2.2.2.2.1), (10, pT 2 0), (82, bB v28)], [.box [.vw none tyIII a1, .vw none tyI a2, ci a3, ci a4, ci a5, .bool a6, ci a7, ci a8, ci a9, .bool a10, .vw none tyI a11, .vw none tyI a12], .box [.sl 3, .sl 4, ci r7.1, ci r7.2.1, ci r7.2.2.1, .bool r7.2.2.2.1, ci r7.2.2.2.2.1, ci r7.2.2.2.2.2.1, ci r7.2.2.2.2.2.2.1, .bool r7.2.2.2.2.2.2.2.1, .sl 5, .sl 6], .box [.sl 7, .sl 8, ci r10.1, ci r10.2.1, ci r10.2.2.1, .bool r10.2.2.2.1, ci r10.2.2.2.2.1, ci r10.2.2.2.2.2.1, ci r10.2.2.2.2.2.2.1, .bool r10.2.2.2.2.2.2.2.1, .sl 9, .sl 10], .row tyIII r7.2.2.2.2.2.2.2.2.2.1, .row tyI r7.2.2.2.2.2.2.2.2.2.2.1, .row tyI r7.2.2.2.2.2.2.2.2.2.2.2.1, .row tyI r7.2.2.2.2.2.2.2.2.2.2.2.2, .row tyIII r10.2.2.2.2.2.2.2.2.2.1, .row tyI r10.2.2.2.2.2.2.2.2.2.2.1, .row tyI r10.2.2.2.2.2.2.2.2.2.2.2.1, .row tyI r10.2.2.2.2.2.2.2.2.2.2.2.2]⟩) (fun v28 hF => ?_) (fun hJJ26 => ?_)
        ·
         unfold F_laws_FnExactStreamRun_J26 at hF
         rcases condE hF with ⟨he, hF⟩ | ⟨he, hF⟩
         ·
          refine .xT he ?_ ?_
          refine .seq ?_
          refine .vW [] (some ([0, 1, 2, 3, 4, 5, 6, 7, 8, 9, 10], [1, 2, 4, 6, 7, 10])) [] trivial ?_ ?_
          cases hF
          exact .xR hE [] [] (by kernel_rfl)
          all_goals kernel_rfl
         ·
          refine .xF he ?_ ?_
          refine .skip ?_
          refine .seq ?_
          refine .vW [] (some ([0, 1, 2, 3, 4, 5, 6, 7, 8, 9, 10], [1, 2, 4, 6, 7, 10, 13])) [] trivial ?_ ?_
          refine .seq ?_
          refine .uB [0, 1] [2, 3] [] [] rfl trivial ?_ ?_
          obtain ⟨r30, h50, hF⟩ := bindE hF
          refine .uC false [.whole 7, .whole 8, .whole 9, .whole 10] (S_laws_markStream_3c3c k r10.1 r10.2.1 r10.2.2.1 r10.2.2.2.1 r10.2.2.2.2.1 r10.2.2.2.2.2.1 r10.2.2.2.2.2.2.1 r10.2.2.2.2.2.2.2.1 1 r10.2.2.2.2.2.2.2.2.2.1 r10.2.2.2.2.2.2.2.2.2.2.1 r10.2.2.2.2.2.2.2.2.2.2.2.1 r10.2.2.2.2.2.2.2.2.2.2.2.2 r30 h50) rfl ?_ ?_
          refine .vE [] (some ([0, 1, 2, 3, 4, 5, 6, 7, 8, 9, 10], [1, 2, 4, 6, 7, 10, 13])) [] trivial ?_ ?_
          refine .seq ?_
          refine .vW [] none [] trivial ?_ ?_
          refine .seq ?_
          refine .uB [0, 1] [2, 3] [] [] rfl trivial ?_ ?_
          obtain ⟨r31, h49, hF⟩ := bindE hF
          refine .uC true [] (S_laws_heldStream k r30.2.1 r30.2.2.1 r10.1 r10.2.1 r10.2.2.1 r10.2.2.2.1 r10.2.2.2.2.1 r10.2.2.2.2.2.1 r10.2.2.2.2.2.2.1 r10.2.2.2.2.2.2.2.1 r30.2.2.2.1 r30.2.2.2.2 1 r31 h49) rfl ?_ ?_
          refine .xE [] (some ([0, 1, 2, 3, 4, 5, 6, 7, 8, 9, 10], [1, 2, 4, 6, 7, 10, 13, 14])) ⟨[(1, vV none tyIIS a13), (2, pT 0 0), (4, bB false), (6, pT 1 0), (7, iI r7.2.2.2.2.2.2.2.2.1), (10, pT 2 0), (13, iI r30.1), (14, iI r31)], [.box [.vw none tyIII a1, .vw none tyI a2, ci a3, ci a4, ci a5, .bool a6, ci a7, ci a8, ci a9, .bool a10, .vw none tyI a11, .vw none tyI a12], .box [.sl 3, .sl 4, ci r7.1, ci r7.2.1, ci r7.2.2.1, .bool r7.2.2.2.1, ci r7.2.2.2.2.1, ci r7.2.2.2.2.2.1, ci r7.2.2.2.2.2.2.1, .bool r7.2.2.2.2.2.2.2.1, .sl 5, .sl 6], .box [.sl 7, .sl 8, ci r10.1, ci r10.2.1, ci r10.2.2.1, .bool r10.2.2.2.1, ci r10.2.2.2.2.1, ci r10.2.2.2.2.2.1, ci r10.2.2.2.2.2.2.1, .bool r10.2.2.2.2.2.2.2.1, .sl 9, .sl 10], .row tyIII r7.2.2.2.2.2.2.2.2.2.1, .row tyI r7.2.2.2.2.2.2.2.2.2.2.1, .row tyI r7.2.2.2.2.2.2.2.2.2.2.2.1, .row tyI r7.2.2.2.2.2.2.2.2.2.2.2.2, .row tyIII r30.2.1, .row tyI r30.2.2.1, .row tyI r30.2.2.2.1, .row tyI r30.2.2.2.2]⟩ [] trivial ?_ ?_
          refine .seq ?_
          refine .seq ?_
          refine .xW [] (some ([0, 1, 2, 3, 4, 5, 6, 7, 8, 9, 10], [1, 2, 4, 6, 7, 10, 13, 14, 90])) ⟨[(1, vV none tyIIS a13), (2, pT 0 0), (4, bB false), (6, pT 1 0), (7, iI r7.2.2.2.2.2.2.2.2.1), (10, pT 2 0), (13, iI r30.1), (14, iI r31), (90, bB (decide (r31 < 0)))], [.box [.vw none tyIII a1, .vw none tyI a2, ci a3, ci a4, ci a5, .bool a6, ci a7, ci a8, ci a9, .bool a10, .vw none tyI a11, .vw none tyI a12], .box [.sl 3, .sl 4, ci r7.1, ci r7.2.1, ci r7.2.2.1, .bool r7.2.2.2.1, ci r7.2.2.2.2.1, ci r7.2.2.2.2.2.1, ci r7.2.2.2.2.2.2.1, .bool r7.2.2.2.2.2.2.2.1, .sl 5, .sl 6], .box [.sl 7, .sl 8, ci r10.1, ci r10.2.1, ci r10.2.2.1, .bool r10.2.2.2.1, ci r10.2.2.2.2.1, ci r10.2.2.2.2.2.1, ci r10.2.2.2.2.2.2.1, .bool r10.2.2.2.2.2.2.2.1, .sl 9, .sl 10], .row tyIII r7.2.2.2.2.2.2.2.2.2.1, .row tyI r7.2.2.2.2.2.2.2.2.2.2.1, .row tyI r7.2.2.2.2.2.2.2.2.2.2.2.1, .row tyI r7.2.2.2.2.2.2.2.2.2.2.2.2, .row tyIII r30.2.1, .row tyI r30.2.2.1, .row tyI r30.2.2.2.1, .row tyI r30.2.2.2.2]⟩ [] trivial ?_ ?_
          rcases condE hF with ⟨he, hF⟩ | ⟨he, hF⟩
          ·
           refine .xT he ?_ ?_
           refine .seq ?_
           refine .vW [] (some ([0, 1, 2, 3, 4, 5, 6, 7, 8, 9, 10], [1, 2, 4, 6, 7, 10, 13, 14])) [] trivial ?_ ?_
           cases hF
           exact .xR hE [] [] (by kernel_rfl)
           all_goals kernel_rfl
          ·
           refine .xF he ?_ ?_
           refine .skip ?_
           refine .seq ?_
           refine .seq ?_
           refine .xW [] (some ([0, 1, 2, 3, 4, 5, 6, 7, 8, 9, 10], [1, 2, 4, 6, 7, 10, 13, 93])) ⟨[(1, vV none tyIIS a13), (2, pT 0 0), (4, bB false), (6, pT 1 0), (7, iI r7.2.2.2.2.2.2.2.2.1), (10, pT 2 0), (13, iI r30.1), (93, bB (r31 != r30.1))], [.box [.vw none tyIII a1, .vw none tyI a2, ci a3, ci a4, ci a5, .bool a6, ci a7, ci a8, ci a9, .bool a10, .vw none tyI a11, .vw none tyI a12], .box [.sl 3, .sl 4, ci r7.1, ci r7.2.1, ci r7.2.2.1, .bool r7.2.2.2.1, ci r7.2.2.2.2.1, ci r7.2.2.2.2.2.1, ci r7.2.2.2.2.2.2.1, .bool r7.2.2.2.2.2.2.2.1, .sl 5, .sl 6], .box [.sl 7, .sl 8, ci r10.1, ci r10.2.1, ci r10.2.2.1, .bool r10.2.2.2.1, ci r10.2.2.2.2.1, ci r10.2.2.2.2.2.1, ci r10.2.2.2.2.2.2.1, .bool r10.2.2.2.2.2.2.2.1, .sl 9, .sl 10], .row tyIII r7.2.2.2.2.2.2.2.2.2.1, .row tyI r7.2.2.2.2.2.2.2.2.2.2.1, .row tyI r7.2.2.2.2.2.2.2.2.2.2.2.1, .row tyI r7.2.2.2.2.2.2.2.2.2.2.2.2, .row tyIII r30.2.1, .row tyI r30.2.2.1, .row tyI r30.2.2.2.1, .row tyI r30.2.2.2.2]⟩ [] trivial ?_ ?_
           rcases condE hF with ⟨he, hF⟩ | ⟨he, hF⟩
           ·
            refine .xT he ?_ ?_
            refine .seq ?_
            refine .vW [] (some ([0, 1, 2, 3, 4, 5, 6, 7, 8, 9, 10], [1, 2, 4, 6, 7, 10, 13])) [] trivial ?_ ?_
            cases hF
            exact .xR hE [] [] (by kernel_rfl)
            all_goals kernel_rfl
           ·
            refine .xF he ?_ ?_
            refine .skip ?_
            refine .seq ?_
            refine .uB [0] [1, 2, 3, 4, 5, 6, 7, 8, 9, 10] [] [] rfl trivial ?_ ?_
            obtain ⟨r34, h48, hF⟩ := bindE hF
            refine .uC false [] (S_laws_toStream k a1 a2 a3 a4 a5 a6 a7 a8 a9 a10 a11 a12 r34 h48) rfl ?_ ?_
            refine .uN [2] [3, 4, 5, 6, 7, 8, 9, 10] [] [] rfl trivial ?_ ?_
            obtain ⟨r35, h47, hF⟩ := bindE hF
            refine .uC false [] (S_laws_toActionS k a13 r35 h47) rfl ?_ ?_
            obtain ⟨r36, h46, hF⟩ := bindE hF
            refine .uC true [] (S_impl_StreamRun k r34.1 r34.2.1 a3 a4 a5 a6 a7 a8 a9 a10 r34.2.2.1 r34.2.2.2 r35 r36 h46) rfl ?_ ?_
            refine .vE [] (some ([1, 2, 20, 3, 4, 5, 6, 7, 8, 9, 10, 16, 17, 18, 19], [4, 6, 7, 10, 13, 15, 16])) [] trivial ?_ ?_
            refine .seq ?_
            refine .seq ?_
            refine WT.join (f := fun v39 => F_laws_FnExactStreamRun_J37 k r10 r30 v39) (r := r) (S := fun v39 => ⟨[(4, bB false), (10, pT 0 0), (13, iI r30.1), (110, bB v39)], [.box [.sl 1, .sl 2, ci r10.1, ci r10.2.1, ci r10.2.2.1, .bool r10.2.2.2.1, ci r10.2.2.2.2.1, ci r10.2.2.2.2.2.1, ci r10.2.2.2.2.2.2.1, .bool r10.2.2.2.2.2.2.2.1, .sl 3, .sl 4], .row tyIII r30.2.1, .row tyI r30.2.2.1, .row tyI r30.2.2.2.1, .row tyI r30.2.2.2.2]⟩) (fun v39 hF => ?_) (fun hJJ37 => ?_)
            ·
             unfold F_laws_FnExactStreamRun_J37 at hF
             rcases condE hF with ⟨he, hF⟩ | ⟨he, hF⟩
             ·
              refine .xT he ?_ ?_
              refine .seq ?_
              refine .vW [] (some ([0, 1, 2, 3, 4], [4, 10, 13])) [] trivial ?_ ?_
              cases hF
              exact .xR hE [] [] (by kernel_rfl)
              all_goals kernel_rfl
             ·
              refine .xF he ?_ ?_
              refine .skip ?_
              refine .seq ?_
              refine .xW [] (some ([0, 1, 2, 3, 4], [4, 10, 13, 14])) ⟨[(4, bB false), (10, pT 0 0), (13, iI r30.1), (14, iI 1)], [.box [.sl 1, .sl 2, ci r10.1, ci r10.2.1, ci r10.2.2.1, .bool r10.2.2.2.1, ci r10.2.2.2.2.1, ci r10.2.2.2.2.2.1, ci r10.2.2.2.2.2.2.1, .bool r10.2.2.2.2.2.2.2.1, .sl 3, .sl 4], .row tyIII r30.2.1, .row tyI r30.2.2.1, .row tyI r30.2.2.2.1, .row tyI r30.2.2.2.2]⟩ [] trivial ?_ ?_
              refine .seq ?_
              refine .uB [0, 1] [2, 3] [] [] rfl trivial ?_ ?_
              obtain ⟨r41, h44, hF⟩ := bindE hF
              refine .uC true [] (S_laws_heldStream k r30.2.1 r30.2.2.1 r10.1 r10.2.1 r10.2.2.1 r10.2.2.2.1 r10.2.2.2.2.1 r10.2.2.2.2.2.1 r10.2.2.2.2.2.2.1 r10.2.2.2.2.2.2.2.1 r30.2.2.2.1 r30.2.2.2.2 1 r41 h44) rfl ?_ ?_
              refine .vE [] (some ([], [4, 13, 14])) [] trivial ?_ ?_
              refine .seq ?_
              refine .seq ?_
              refine .xW [] (some ([], [4, 13, 14, 115])) ⟨[(4, bB false), (13, iI r30.1), (14, iI r41), (115, bB (decide (r41 < 0)))], []⟩ [] trivial ?_ ?_
              rcases condE hF with ⟨he, hF⟩ | ⟨he, hF⟩
              ·
               refine .xT he ?_ ?_
               refine .seq ?_
               refine .vW [] (some ([], [4, 13, 14])) [] trivial ?_ ?_
               cases hF
               exact .xR hE [] [] (by kernel_rfl)
               all_goals kernel_rfl
              ·
               refine .xF he ?_ ?_
               refine .skip ?_
               refine .seq ?_
               refine .seq ?_
               refine .xW [] (some ([], [4, 118])) ⟨[(4, bB false), (118, bB (r41 != r30.1))], []⟩ [] trivial ?_ ?_
               rcases condE hF with ⟨he, hF⟩ | ⟨he, hF⟩
               ·
                refine .xT he ?_ ?_
                refine .seq ?_
                refine .vW [] (some ([], [4])) [] trivial ?_ ?_
                cases hF
                exact .xR hE [] [] (by kernel_rfl)
                all_goals kernel_rfl
               ·
                refine .xF he ?_ ?_
                refine .skip ?_
                refine .seq ?_
                refine .vW [] (some ([], [4])) [] trivial ?_ ?_
                cases hF
                exact .xR hE [] [] (by kernel_rfl)
                all_goals kernel_rfl
               all_goals kernel_rfl
              all_goals kernel_rfl
             all_goals kernel_rfl
            ·
             refine .uB [0, 1] [2, 3, 4, 5, 6, 7, 8] [] [] rfl trivial ?_ ?_
             obtain ⟨r38, h45, hF⟩ := bindE hF
             refine .uC true [] (S_laws_eqStream k r36.2.2.2.2.2.2.2.2.2.1 r36.2.2.2.2.2.2.2.2.2.2.1 r36.1 r36.2.1 r36.2.2.1 r36.2.2.2.1 r36.2.2.2.2.1 r36.2.2.2.2.2.1 r36.2.2.2.2.2.2.1 r36.2.2.2.2.2.2.2.1 r36.2.2.2.2.2.2.2.2.2.2.2.1 r36.2.2.2.2.2.2.2.2.2.2.2.2 r7.2.2.2.2.2.2.2.2.2.1 r7.2.2.2.2.2.2.2.2.2.2.1 r7.1 r7.2.1 r7.2.2.1 r7.2.2.2.1 r7.2.2.2.2.1 r7.2.2.2.2.2.1 r7.2.2.2.2.2.2.1 r7.2.2.2.2.2.2.2.1 r7.2.2.2.2.2.2.2.2.2.2.2.1 r7.2.2.2.2.2.2.2.2.2.2.2.2 r38 h45) rfl ?_ ?_
             refine .uN [3, 4] [5, 6, 7, 8] [] [] rfl trivial ?_ ?_
             rcases condE hF with ⟨he, hF⟩ | ⟨he, hF⟩
             ·
              refine WT.putB [106, 105] he ?_ ?_
              refine .vE [] (some ([1, 7, 8, 9, 10], [4, 10, 13, 110])) [] trivial ?_ ?_
              exact .xS [.pick [0, 1, 2, 3, 4] [4, 10, 13, 110]] (hJJ37 (true) hF) (by kernel_rfl)
              all_goals kernel_rfl
             ·
              refine WT.putB [106, 105] he ?_ ?_
              refine .vE [] (some ([1, 7, 8, 9, 10], [4, 10, 13, 110])) [] trivial ?_ ?_
              exact .xS [.pick [0, 1, 2, 3, 4] [4, 10, 13, 110]] (hJJ37 (r36.2.2.2.2.2.2.2.2.1 != r7.2.2.2.2.2.2.2.2.1) hF) (by kernel_rfl)
              all_goals kernel_rfl
             all_goals kernel_rfl
            all_goals kernel_rfl
           all_goals kernel_rfl
          all_goals kernel_rfl
         all_goals kernel_rfl
        ·
         refine .uB [0, 1, 2] [3, 4, 5, 6, 7, 8, 9, 10, 11, 12] [] [] rfl trivial ?_ ?_
         rcases condE hF with ⟨he, hF⟩ | ⟨he, hF⟩
         ·
          refine WT.putB [72, 71] he ?_ ?_
          refine .vE [] (some ([0, 1, 2, 3, 4, 5, 6, 7, 8, 9, 10], [1, 2, 4, 6, 7, 10, 82])) [] trivial ?_ ?_
          exact .xS [.pick [0, 1, 2, 3, 4, 5, 6, 7, 8, 9, 10] [1, 2, 4, 6, 7, 10, 82]] (hJJ26 (true) hF) (by kernel_rfl)
          all_goals kernel_rfl
         ·
          refine WT.putB [72, 71] he ?_ ?_
          refine .uN [3, 4] [5, 6, 7, 8, 9, 10, 11, 12] [] [] rfl trivial ?_ ?_
          obtain ⟨r27, h51, hF⟩ := bindE hF
          refine .uC true [] (S_laws_eqStream k r10.2.2.2.2.2.2.2.2.2.1 r10.2.2.2.2.2.2.2.2.2.2.1 r10.1 r10.2.1 r10.2.2.1 r10.2.2.2.1 r10.2.2.2.2.1 r10.2.2.2.2.2.1 r10.2.2.2.2.2.2.1 r10.2.2.2.2.2.2.2.1 r10.2.2.2.2.2.2.2.2.2.2.2.1 r10.2.2.2.2.2.2.2.2.2.2.2.2 r7.2.2.2.2.2.2.2.2.2.1 r7.2.2.2.2.2.2.2.2.2.2.1 r7.1 r7.2.1 r7.2.2.1 r7.2.2.2.1 r7.2.2.2.2.1 r7.2.2.2.2.2.1 r7.2.2.2.2.2.2.1 r7.2.2.2.2.2.2.2.1 r7.2.2.2.2.2.2.2.2.2.2.2.1 r7.2.2.2.2.2.2.2.2.2.2.2.2 r27 h51) rfl ?_ ?_
          refine .uN [6, 7, 8] [9, 10, 11, 12] [] [] rfl trivial ?_ ?_
          rcases condE hF with ⟨he, hF⟩ | ⟨he, hF⟩
          ·
           refine WT.putB [78, 77, 76] he ?_ ?_
           refine .vE [] (some ([0, 1, 2, 3, 4, 5, 6, 7, 8, 9, 10], [1, 2, 4, 6, 7, 10, 82])) [] trivial ?_ ?_
           exact .xS [.pick [0, 1, 2, 3, 4, 5, 6, 7, 8, 9, 10] [1, 2, 4, 6, 7, 10, 82]] (hJJ26 (true) hF) (by kernel_rfl)
           all_goals kernel_rfl
          ·
           refine WT.putB [78, 77, 76] he ?_ ?_
           refine .vE [] (some ([0, 1, 2, 3, 4, 5, 6, 7, 8, 9, 10], [1, 2, 4, 6, 7, 10, 82])) [] trivial ?_ ?_
           exact .xS [.pick [0, 1, 2, 3, 4, 5, 6, 7, 8, 9, 10] [1, 2, 4, 6, 7, 10, 82]] (hJJ26 (r10.2.2.2.2.2.2.2.2.1 != r7.2.2.2.2.2.2.2.2.1) hF) (by kernel_rfl)
           all_goals kernel_rfl
          all_goals kernel_rfl
         all_goals kernel_rfl
        all_goals kernel_rfl
       all_goals kernel_rfl
      all_goals kernel_rfl
     refine WA.lem (pr' := [.cells 0 0 12, .cells 2 0 12]) (fuel' := 2) (listed' := #[true, true, true, false, false]) (st' := ⟨[(1, vV none tyIIS a13), (2, pT 0 0), (4, bB false), (6, pT 1 0), (7, iI r7.2.2.2.2.2.2.2.2.1), (8, pT 2 0), (9, sL 3), (10, pT 4 0), (11, iI r10.2.2.2.2.2.2.2.2.1), (54, aG [.sl 9, .sl 10, ci a3, ci a4, ci a5, .bool a6, ci a7, ci a8, ci a9, .bool a10, .sl 11, .sl 12]), (56, aG [.sl 17, .sl 18, ci a3, ci a4, ci a5, .bool a6, ci a7, ci a8, ci a9, .bool a10, .sl 19, .sl 20])], [.box [.vw none tyIII a1, .vw none tyI a2, ci a3, ci a4, ci a5, .bool a6, ci a7, ci a8, ci a9, .bool a10, .vw none tyI a11, .vw none tyI a12], .box [.sl 5, .sl 6, ci r7.1, ci r7.2.1, ci r7.2.2.1, .bool r7.2.2.2.1, ci r7.2.2.2.2.1, ci r7.2.2.2.2.2.1, ci r7.2.2.2.2.2.2.1, .bool r7.2.2.2.2.2.2.2.1, .sl 7, .sl 8], .box [.sl 9, .sl 10, ci a3, ci a4, ci a5, .bool a6, ci a7, ci a8, ci a9, .bool a10, .sl 11, .sl 12], .row tyIIS r9, .box [.sl 13, .sl 14, ci r10.1, ci r10.2.1, ci r10.2.2.1, .bool r10.2.2.2.1, ci r10.2.2.2.2.1, ci r10.2.2.2.2.2.1, ci r10.2.2.2.2.2.2.1, .bool r10.2.2.2.2.2.2.2.1, .sl 15, .sl 16], .row tyIII r7.2.2.2.2.2.2.2.2.2.1, .row tyI r7.2.2.2.2.2.2.2.2.2.2.1, .row tyI r7.2.2.2.2.2.2.2.2.2.2.2.1, .row tyI r7.2.2.2.2.2.2.2.2.2.2.2.2, .row tyIII r8.1, .row tyI r8.2.1, .row tyI r8.2.2.1, .row tyI r8.2.2.2, .row tyIII r10.2.2.2.2.2.2.2.2.2.1, .row tyI r10.2.2.2.2.2.2.2.2.2.2.1, .row tyI r10.2.2.2.2.2.2.2.2.2.2.2.1, .row tyI r10.2.2.2.2.2.2.2.2.2.2.2.2, .row tyIII r16.1, .row tyI r16.2.1, .row tyI r16.2.2.1, .row tyI r16.2.2.2]⟩) ?_ (fun A57 => ?_)
     ·
      refine WA.x1 3 (WO.uC true [] [.cells 0 0 12, .cells 2 0 12] (S_laws_eqStream k r8.1 r8.2.1 a3 a4 a5 a6 a7 a8 a9 a10 r8.2.2.1 r8.2.2.2 r16.1 r16.2.1 a3 a4 a5 a6 a7 a8 a9 a10 r16.2.2.1 r16.2.2.2 r17 h19) rfl ?_ ?_) ?_
      exact WA.to 1 [] [] [0, 1, 2, 3, 4, 5, 6, 7, 8, 9, 10, 11, 12, 13, 14, 15, 16] [1, 2, 4, 6, 7, 8, 9, 10, 11, 58] A58 trivial (by kernel_rfl)
      all_goals kernel_rfl
     refine WA.lem (pr' := [.cells 0 0 12, .cells 2 0 12]) (fuel' := 3) (listed' := #[true, true, false, false, false]) (st' := ⟨[(1, vV none tyIIS a13), (2, pT 0 0), (4, bB false), (6, pT 1 0), (7, iI r7.2.2.2.2.2.2.2.2.1), (8, pT 2 0), (9, sL 3), (10, pT 4 0), (11, iI r10.2.2.2.2.2.2.2.2.1), (54, aG [.sl 9, .sl 10, ci a3, ci a4, ci a5, .bool a6, ci a7, ci a8, ci a9, .bool a10, .sl 11, .sl 12]), (55, aG [.vw none tyIII a1, .vw none tyI a2, ci a3, ci a4, ci a5, .bool a6, ci a7, ci a8, ci a9, .bool a10, .vw none tyI a11, .vw none tyI a12])], [.box [.vw none tyIII a1, .vw none tyI a2, ci a3, ci a4, ci a5, .bool a6, ci a7, ci a8, ci a9, .bool a10, .vw none tyI a11, .vw none tyI a12], .box [.sl 5, .sl 6, ci r7.1, ci r7.2.1, ci r7.2.2.1, .bool r7.2.2.2.1, ci r7.2.2.2.2.1, ci r7.2.2.2.2.2.1, ci r7.2.2.2.2.2.2.1, .bool r7.2.2.2.2.2.2.2.1, .sl 7, .sl 8], .box [.sl 9, .sl 10, ci a3, ci a4, ci a5, .bool a6, ci a7, ci a8, ci a9, .bool a10, .sl 11, .sl 12], .row tyIIS r9, .box [.sl 13, .sl 14, ci r10.1, ci r10.2.1, ci r10.2.2.1, .bool r10.2.2.2.1, ci r10.2.2.2.2.1, ci r10.2.2.2.2.2.1, ci r10.2.2.2.2.2.2.1, .bool r10.2.2.2.2.2.2.2.1, .sl 15, .sl 16], .row tyIII r7.2.2.2.2.2.2.2.2.2.1, .row tyI r7.2.2.2.2.2.2.2.2.2.2.1, .row tyI r7.2.2.2.2.2.2.2.2.2.2.2.1, .row tyI r7.2.2.2.2.2.2.2.2.2.2.2.2, .row tyIII r8.1, .row tyI r8.2.1, .row tyI r8.2.2.1, .row tyI r8.2.2.2, .row tyIII r10.2.2.2.2.2.2.2.2.2.1, .row tyI r10.2.2.2.2.2.2.2.2.2.2.1, .row tyI r10.2.2.2.2.2.2.2.2.2.2.2.1, .row tyI r10.2.2.2.2.2.2.2.2.2.2.2.2]⟩) ?_ (fun A56 => ?_)
     ·
      refine WA.x1 2 (WO.uC false [] [.cells 0 0 12, .cells 2 0 12] (S_laws_toStream k a1 a2 a3 a4 a5 a6 a7 a8 a9 a10 a11 a12 r16 h18) rfl ?_ ?_) ?_
      exact WA.to 0 [] [] [0, 1, 2, 3, 4, 5, 6, 7, 8, 9, 10, 11, 12, 13, 14, 15, 16, 17, 18, 19, 20] [1, 2, 4, 6, 7, 8, 9, 10, 11, 54, 56] A57 trivial (by kernel_rfl)
      all_goals kernel_rfl
     exact WA.to 2 [] [] [0, 1, 2, 3, 4, 5, 6, 7, 8, 9, 10, 11, 12, 13, 14, 15, 16] [1, 2, 4, 6, 7, 8, 9, 10, 11, 54, 55] A56 trivial (by kernel_rfl)
     all_goals kernel_rfl
    all_goals kernel_rfl
   ·
    refine .uB [0, 1] [2, 3, 4, 5, 6, 7, 8] [] [] rfl trivial ?_ ?_
    obtain ⟨r12, h59, hF⟩ := bindE hF
    refine .uC true [] (S_laws_eqStream k r10.2.2.2.2.2.2.2.2.2.1 r10.2.2.2.2.2.2.2.2.2.2.1 r10.1 r10.2.1 r10.2.2.1 r10.2.2.2.1 r10.2.2.2.2.1 r10.2.2.2.2.2.1 r10.2.2.2.2.2.2.1 r10.2.2.2.2.2.2.2.1 r10.2.2.2.2.2.2.2.2.2.2.2.1 r10.2.2.2.2.2.2.2.2.2.2.2.2 r7.2.2.2.2.2.2.2.2.2.1 r7.2.2.2.2.2.2.2.2.2.2.1 r7.1 r7.2.1 r7.2.2.1 r7.2.2.2.1 r7.2.2.2.2.1 r7.2.2.2.2.2.1 r7.2.2.2.2.2.2.1 r7.2.2.2.2.2.2.2.1 r7.2.2.2.2.2.2.2.2.2.2.2.1 r7.2.2.2.2.2.2.2.2.2.2.2.2 r12 h59) rfl ?_ ?_
    refine .uN [3, 4] [5, 6, 7, 8] [] [] rfl trivial ?_ ?_
    rcases condE hF with ⟨he, hF⟩ | ⟨he, hF⟩
    ·
     refine WT.putB [49, 48] he ?_ ?_
     refine .vE [] (some ([0, 1, 2, 3, 4, 5, 6, 7, 8, 9, 10, 11, 12, 13, 14, 15, 16], [1, 2, 4, 6, 7, 8, 9, 10, 11, 53])) [] trivial ?_ ?_
     exact .xS [.pick [0, 1, 2, 3, 4, 5, 6, 7, 8, 9, 10, 11, 12, 13, 14, 15, 16] [1, 2, 4, 6, 7, 8, 9, 10, 11, 53]] (hJJ11 (true) hF) (by kernel_rfl)
     all_goals kernel_rfl
    ·
     refine WT.putB [49, 48] he ?_ ?_
     refine .vE [] (some ([0, 1, 2, 3, 4, 5, 6, 7, 8, 9, 10, 11, 12, 13, 14, 15, 16], [1, 2, 4, 6, 7, 8, 9, 10, 11, 53])) [] trivial ?_ ?_
     exact .xS [.pick [0, 1, 2, 3, 4, 5, 6, 7, 8, 9, 10, 11, 12, 13, 14, 15, 16] [1, 2, 4, 6, 7, 8, 9, 10, 11, 53]] (hJJ11 (r10.2.2.2.2.2.2.2.2.1 != r7.2.2.2.2.2.2.2.2.1) hF) (by kernel_rfl)
     all_goals kernel_rfl
    all_goals kernel_rfl
   all_goals kernel_rfl
  all_goals kernel_rfl
 all_goals kernel_rfl
end Go.Proofs.YtmbbapeiikifgaaGreatDoor
