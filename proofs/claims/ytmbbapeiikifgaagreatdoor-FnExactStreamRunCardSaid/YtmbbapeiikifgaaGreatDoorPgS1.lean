/- The functions do what they compute. -/
import Derived.Test.YtmbbapeiikifgaaGreatDoorSlVu
import Derived.Test.YtmbbapeiikifgaaGreatDoorSlLj
import Derived.Test.YtmbbapeiikifgaaGreatDoorShX
import Derived.Test.YtmbbapeiikifgaaGreatDoorProg
import Derived.Test.YtmbbapeiikifgaaGreatDoorPgF
import Derived.KernelRfl
import Derived.Test.YtmbbapeiikifgaaGreatDoorPgS0
set_option maxRecDepth 100000
set_option linter.all false
namespace Go.Proofs.YtmbbapeiikifgaaGreatDoor
open Go Go.Shelf
theorem S_spec_l4Kind (k : Nat) (a1 : ByteArray) (a2 : Int) (r : Int × Int × Int) (hF : F_spec_l4Kind k a1 a2 = some r) : Spec Tryz.prog 139 [sS a1, iI a2] [] (.tup [.c (ci r.1), .c (ci r.2.1), .c (.int .u8 r.2.2)]) [] := by
 refine Spec.of 0 24 Tryz.func139 rfl rfl (Nat.le_of_ble_eq_true rfl) rfl fun w0 S0 Z0 M0 R0 hE => ?_
 unfold F_spec_l4Kind at hF
 refine .seq ?_
 refine .vW [] none [] trivial ?_ ?_
 refine .seq ?_
 refine .seq ?_
 obtain ⟨h9, hF⟩ := iteE hF
 refine .vW [] (some ([], [4, 5, 6, 9])) [(0 : Int) ≤ a2 ∧ a2 < a1.size] ⟨h9, trivial⟩ ?_ ?_
 refine .block ?_
 refine .seq ?_
 refine .xW [] (some ([], [4, 5, 6, 9, 10])) ⟨[(4, iI 0), (5, iI 0), (6, .p (.c (.int .u8 0))), (9, .p (.c (.int .u8 (bt a1 a2)))), (10, bB ((bt a1 a2) == 40))], []⟩ [] trivial ?_ ?_
 rcases condE hF with ⟨he, hF⟩ | ⟨he, hF⟩
 ·
  refine .xT he ?_ ?_
  refine .seq ?_
  refine .vW [] (some ([], [4, 5, 6])) [] trivial ?_ ?_
  cases hF
  exact .xR hE [] [] (by kernel_rfl)
  all_goals kernel_rfl
 ·
  refine .xF he ?_ ?_
  refine .seq ?_
  refine .xW [] (some ([], [4, 5, 6, 9, 12])) ⟨[(4, iI 0), (5, iI 0), (6, .p (.c (.int .u8 0))), (9, .p (.c (.int .u8 (bt a1 a2)))), (12, bB ((bt a1 a2) == 123))], []⟩ [] trivial ?_ ?_
  rcases condE hF with ⟨he, hF⟩ | ⟨he, hF⟩
  ·
   refine .xT he ?_ ?_
   refine .seq ?_
   refine .vW [] (some ([], [4, 5, 6])) [] trivial ?_ ?_
   cases hF
   exact .xR hE [] [] (by kernel_rfl)
   all_goals kernel_rfl
  ·
   refine .xF he ?_ ?_
   refine .seq ?_
   refine .xW [] (some ([], [4, 5, 6, 9, 14])) ⟨[(4, iI 0), (5, iI 0), (6, .p (.c (.int .u8 0))), (9, .p (.c (.int .u8 (bt a1 a2)))), (14, bB ((bt a1 a2) == 91))], []⟩ [] trivial ?_ ?_
   rcases condE hF with ⟨he, hF⟩ | ⟨he, hF⟩
   ·
    refine .xT he ?_ ?_
    refine .seq ?_
    refine .vW [] (some ([], [4, 5, 6])) [] trivial ?_ ?_
    cases hF
    exact .xR hE [] [] (by kernel_rfl)
    all_goals kernel_rfl
   ·
    refine .xF he ?_ ?_
    refine .seq ?_
    refine .xW [] (some ([], [4, 5, 6, 9, 16])) ⟨[(4, iI 0), (5, iI 0), (6, .p (.c (.int .u8 0))), (9, .p (.c (.int .u8 (bt a1 a2)))), (16, bB ((bt a1 a2) == 35))], []⟩ [] trivial ?_ ?_
    rcases condE hF with ⟨he, hF⟩ | ⟨he, hF⟩
    ·
     refine .xT he ?_ ?_
     refine .seq ?_
     refine .vW [] (some ([], [4, 5, 6])) [] trivial ?_ ?_
     cases hF
     exact .xR hE [] [] (by kernel_rfl)
     all_goals kernel_rfl
    ·
     refine .xF he ?_ ?_
     refine .seq ?_
     refine .xW [] (some ([], [4, 5, 6, 9, 18])) ⟨[(4, iI 0), (5, iI 0), (6, .p (.c (.int .u8 0))), (9, .p (.c (.int .u8 (bt a1 a2)))), (18, bB ((bt a1 a2) == 94))], []⟩ [] trivial ?_ ?_
     rcases condE hF with ⟨he, hF⟩ | ⟨he, hF⟩
     ·
      refine .xT he ?_ ?_
      refine .seq ?_
      refine .vW [] (some ([], [4, 5, 6])) [] trivial ?_ ?_
      cases hF
      exact .xR hE [] [] (by kernel_rfl)
      all_goals kernel_rfl
     ·
      refine .xF he ?_ ?_
      refine .seq ?_
      refine .xW [] (some ([], [4, 5, 6, 9, 20])) ⟨[(4, iI 0), (5, iI 0), (6, .p (.c (.int .u8 0))), (9, .p (.c (.int .u8 (bt a1 a2)))), (20, bB ((bt a1 a2) == 107))], []⟩ [] trivial ?_ ?_
      rcases condE hF with ⟨he, hF⟩ | ⟨he, hF⟩
      ·
       refine .xT he ?_ ?_
       refine .seq ?_
       refine .vW [] (some ([], [4, 5, 6])) [] trivial ?_ ?_
       cases hF
       exact .xR hE [] [] (by kernel_rfl)
       all_goals kernel_rfl
      ·
       refine .xF he ?_ ?_
       refine .seq ?_
       refine .xW [] (some ([], [4, 5, 6, 22])) ⟨[(4, iI 0), (5, iI 0), (6, .p (.c (.int .u8 0))), (22, bB ((bt a1 a2) == 42))], []⟩ [] trivial ?_ ?_
       rcases condE hF with ⟨he, hF⟩ | ⟨he, hF⟩
       ·
        refine .xT he ?_ ?_
        refine .seq ?_
        refine .vW [] (some ([], [4, 5, 6])) [] trivial ?_ ?_
        cases hF
        exact .xR hE [] [] (by kernel_rfl)
        all_goals kernel_rfl
       ·
        refine .xF he ?_ ?_
        refine .skip ?_
        refine .inBlock ?_
        refine .seq ?_
        refine .vW [] (some ([], [4, 5, 6])) [] trivial ?_ ?_
        cases hF
        exact .xR hE [] [] (by kernel_rfl)
        all_goals kernel_rfl
       all_goals kernel_rfl
      all_goals kernel_rfl
     all_goals kernel_rfl
    all_goals kernel_rfl
   all_goals kernel_rfl
  all_goals kernel_rfl
 all_goals kernel_rfl
theorem S_spec_l10Run_B (k : Nat) (q_spec_l10Run : (List (Int × (Int × Int))) → (List Int) → ByteArray → Int → Option ((List (Int × (Int × Int))) × Int × Int × Int)) (hq_spec_l10Run : ∀ (a1 : (List (Int × (Int × Int)))) (a2 : (List Int)) (a3 : ByteArray) (a4 : Int) (r : (List (Int × (Int × Int))) × Int × Int × Int), q_spec_l10Run a1 a2 a3 a4 = some r → Spec Tryz.prog 107 [aG [.vw none tyIII a1], vV none tyI a2, sS a3, iI a4] [] (.tup [.agg [.vw none tyIII r.1], .c (ci r.2.1), .c (ci r.2.2.1), .c (ci r.2.2.2)]) []) (a1 : (List (Int × (Int × Int)))) (a2 : (List Int)) (a3 : ByteArray) (a4 : Int) (r : (List (Int × (Int × Int))) × Int × Int × Int) (hF : F_spec_l10Run_B k q_spec_l10Run a1 a2 a3 a4 = some r) : Spec Tryz.prog 107 [aG [.vw none tyIII a1], vV none tyI a2, sS a3, iI a4] [] (.tup [.agg [.vw none tyIII r.1], .c (ci r.2.1), .c (ci r.2.2.1), .c (ci r.2.2.2)]) [] := by
 refine Spec.of 0 244 Tryz.func107 rfl rfl (Nat.le_of_ble_eq_true rfl) rfl fun w0 S0 Z0 M0 R0 hE => ?_
 unfold F_spec_l10Run_B at hF
 refine .seq ?_
 refine .vW [] (some ([0, 1], [1, 2, 3, 4, 8, 9, 10, 11])) [] trivial ?_ ?_
 refine .seq ?_
 refine .seq ?_
 refine .xW [] (some ([0, 1], [1, 2, 3, 4, 8, 9, 10, 11, 46])) ⟨[(1, vV none tyI a2), (2, sS a3), (3, iI a4), (4, pT 0 0), (8, pT 1 0), (9, iI 0), (10, iI 0), (11, iI 0), (46, bB (decide (a4 ≥ (a3.size : Int))))], [.box [.vw none tyIII a1], .box [.nilsl]]⟩ [] trivial ?_ ?_
 rcases condE hF with ⟨he, hF⟩ | ⟨he, hF⟩
 ·
  refine .xT he ?_ ?_
  refine .seq ?_
  refine .vW [] (some ([0, 1], [1, 2, 3, 4, 8, 9, 10, 11])) [] trivial ?_ ?_
  cases hF
  exact .xR hE [] [] (by kernel_rfl)
  all_goals kernel_rfl
 ·
  refine .xF he ?_ ?_
  refine .skip ?_
  refine .seq ?_
  obtain ⟨h45, hF⟩ := iteE hF
  refine .vW [] (some ([0, 1], [1, 2, 3, 4, 8, 9, 10, 11, 12])) [(0 : Int) ≤ a4 ∧ a4 < a3.size] ⟨h45, trivial⟩ ?_ ?_
  refine .seq ?_
  refine .seq ?_
  refine .vW [] none [] trivial ?_ ?_
  refine .block ?_
  refine .seq ?_
  refine .xW [] (some ([0, 1], [1, 2, 3, 4, 8, 9, 10, 11, 12, 53, 54])) ⟨[(1, vV none tyI a2), (2, sS a3), (3, iI a4), (4, pT 0 0), (8, pT 1 0), (9, iI 0), (10, iI 0), (11, iI 0), (12, .p (.c (.int .u8 (bt a3 a4)))), (53, .p (.c (.int .u8 (bt a3 a4)))), (54, bB ((bt a3 a4) == 64))], [.box [.vw none tyIII a1], .box [.nilsl]]⟩ [] trivial ?_ ?_
  rcases condE hF with ⟨he, hF⟩ | ⟨he, hF⟩
  ·
   refine .xT he ?_ ?_
   refine .seq ?_
   refine .uB [0, 1, 2] [3, 4, 5, 6, 7, 8, 9, 10] [] [] rfl trivial ?_ ?_
   obtain ⟨r4, h47, hF⟩ := bindE hF
   refine .uC false [] (S_spec_l10Num k a3 (w64 (a4 + 1)) r4 h47) rfl ?_ ?_
   refine .xE [] (some ([0, 1], [1, 2, 3, 4, 8, 9, 10, 11, 13, 14, 15])) ⟨[(1, vV none tyI a2), (2, sS a3), (3, iI a4), (4, pT 0 0), (8, pT 1 0), (9, iI 0), (10, iI 0), (11, iI 0), (13, iI r4.1), (14, iI r4.2.1), (15, bB r4.2.2)], [.box [.vw none tyIII a1], .box [.nilsl]]⟩ [] trivial ?_ ?_
   refine .seq ?_
   refine .seq ?_
   refine WT.join (f := fun v6 => F_spec_l10Run_J5 k a1 a2 a4 r4 v6) (r := r) (S := fun v6 => ⟨[(1, vV none tyI a2), (2, sS a3), (3, iI a4), (4, pT 0 0), (8, pT 1 0), (9, iI 0), (10, iI 0), (11, iI 0), (13, iI r4.1), (14, iI r4.2.1), (71, bB v6)], [.box [.vw none tyIII a1], .box [.nilsl]]⟩) (fun v6 hF => ?_) (fun hJJ5 => ?_)
   ·
    unfold F_spec_l10Run_J5 at hF
    rcases condE hF with ⟨he, hF⟩ | ⟨he, hF⟩
    ·
     refine .xT he ?_ ?_
     refine .seq ?_
     refine .vW [] (some ([0, 1], [1, 2, 3, 4, 8, 9, 10, 11, 13, 14])) [] trivial ?_ ?_
     cases hF
     exact .xR hE [] [] (by kernel_rfl)
     all_goals kernel_rfl
    ·
     refine .xF he ?_ ?_
     refine .skip ?_
     refine .seq ?_
     obtain ⟨x9, h10, hF⟩ := bindE hF
     refine WA.xs [.cells 0 0 1, .dep none] [.cells 1 0 1] ?_ ?_
     refine WA.fin 10 [.el tyI x9] [at? a2 r4.1 = some x9] (some ([0, 1], [1, 2, 3, 4, 8, 9, 10, 11])) ⟨[(1, vV none tyI a2), (2, sS a3), (3, iI a4), (4, pT 0 0), (8, pT 1 0), (9, iI x9), (10, iI r4.2.1), (11, iI 0)], [.box [.vw none tyIII a1], .box [.vw none tyIII a1]]⟩ ⟨h10, trivial⟩ ?_ ?_
     cases hF
     exact .xR hE [] [] (by kernel_rfl)
     all_goals kernel_rfl
    all_goals kernel_rfl
   ·
    refine .uB [0, 1, 2] [3, 4, 5, 6, 7] [] [] rfl trivial ?_ ?_
    rcases condE hF with ⟨he, hF⟩ | ⟨he, hF⟩
    ·
     refine WT.putB [66, 65] he ?_ ?_
     refine .vE [] (some ([0, 1], [1, 2, 3, 4, 8, 9, 10, 11, 13, 14, 71])) [] trivial ?_ ?_
     exact .xS [.pick [0, 1] [1, 2, 3, 4, 8, 9, 10, 11, 13, 14, 71]] (hJJ5 (true) hF) (by kernel_rfl)
     all_goals kernel_rfl
    ·
     refine WT.putB [66, 65] he ?_ ?_
     refine .vE [] (some ([0, 1], [1, 2, 3, 4, 8, 9, 10, 11, 13, 14, 71])) [] trivial ?_ ?_
     exact .xS [.pick [0, 1] [1, 2, 3, 4, 8, 9, 10, 11, 13, 14, 71]] (hJJ5 (decide (r4.1 ≥ (a2.length : Int))) hF) (by kernel_rfl)
     all_goals kernel_rfl
    all_goals kernel_rfl
   all_goals kernel_rfl
  ·
   refine .xF he ?_ ?_
   refine .seq ?_
   refine .xW [] (some ([0, 1], [1, 2, 3, 4, 8, 9, 10, 11, 12, 53, 80])) ⟨[(1, vV none tyI a2), (2, sS a3), (3, iI a4), (4, pT 0 0), (8, pT 1 0), (9, iI 0), (10, iI 0), (11, iI 0), (12, .p (.c (.int .u8 (bt a3 a4)))), (53, .p (.c (.int .u8 (bt a3 a4)))), (80, bB ((bt a3 a4) == 110))], [.box [.vw none tyIII a1], .box [.nilsl]]⟩ [] trivial ?_ ?_
   rcases condE hF with ⟨he, hF⟩ | ⟨he, hF⟩
   ·
    refine .xT he ?_ ?_
    refine .seq ?_
    refine .uB [0, 1, 2] [3, 4, 5, 6, 7, 8, 9, 10] [] [] rfl trivial ?_ ?_
    obtain ⟨r12, h50, hF⟩ := bindE hF
    refine .uC false [] (S_spec_l4Name k a3 (w64 (a4 + 1)) r12 h50) rfl ?_ ?_
    refine .xE [] (some ([0, 1], [1, 2, 3, 4, 8, 9, 10, 11, 16, 17, 18])) ⟨[(1, vV none tyI a2), (2, sS a3), (3, iI a4), (4, pT 0 0), (8, pT 1 0), (9, iI 0), (10, iI 0), (11, iI 0), (16, iI r12.1), (17, iI r12.2.1), (18, bB r12.2.2)], [.box [.vw none tyIII a1], .box [.nilsl]]⟩ [] trivial ?_ ?_
    refine .seq ?_
    refine .seq ?_
    refine WT.join (f := fun v15 => F_spec_l10Run_J13 k a1 a4 r12 v15) (r := r) (S := fun v15 => ⟨[(1, vV none tyI a2), (2, sS a3), (3, iI a4), (4, pT 0 0), (8, pT 1 0), (9, iI 0), (10, iI 0), (11, iI 0), (16, iI r12.1), (17, iI r12.2.1), (96, bB v15)], [.box [.vw none tyIII a1], .box [.nilsl]]⟩) (fun v15 hF => ?_) (fun hJJ13 => ?_)
    ·
     unfold F_spec_l10Run_J13 at hF
     rcases condE hF with ⟨he, hF⟩ | ⟨he, hF⟩
     ·
      refine .xT he ?_ ?_
      refine .seq ?_
      refine .vW [] (some ([0, 1], [1, 2, 3, 4, 8, 9, 10, 11, 16, 17])) [] trivial ?_ ?_
      cases hF
      exact .xR hE [] [] (by kernel_rfl)
      all_goals kernel_rfl
     ·
      refine .xF he ?_ ?_
      refine .skip ?_
      refine .seq ?_
      refine .uB [0, 1] [2, 3, 4, 5, 6, 7, 8] [] [] rfl trivial ?_ ?_
      obtain ⟨r17, h48, hF⟩ := bindE hF
      refine .uC false [] (S_spec_l2Name k a1 r12.1 r17 h48) rfl ?_ ?_
      refine .vE [] (some ([0, 1, 2], [1, 2, 3, 4, 8, 9, 10, 11, 17, 19, 20])) [] trivial ?_ ?_
      refine .seq ?_
      refine .seq ?_
      refine .xW [] (some ([0, 1, 2], [1, 2, 3, 4, 8, 9, 10, 11, 17, 19, 20, 106])) ⟨[(1, vV none tyI a2), (2, sS a3), (3, iI a4), (4, pT 0 0), (8, pT 1 0), (9, iI 0), (10, iI 0), (11, iI 0), (17, iI r12.2.1), (19, pT 2 0), (20, iI r17.2), (106, bB (decide (r17.2 < 0)))], [.box [.vw none tyIII a1], .box [.nilsl], .box [.vw none tyIII r17.1]]⟩ [] trivial ?_ ?_
      rcases condE hF with ⟨he, hF⟩ | ⟨he, hF⟩
      ·
       refine .xT he ?_ ?_
       refine .seq ?_
       refine .vW [] (some ([0, 1, 2], [1, 2, 3, 4, 8, 9, 10, 11, 17, 19, 20])) [] trivial ?_ ?_
       cases hF
       exact .xR hE [] [] (by kernel_rfl)
       all_goals kernel_rfl
      ·
       refine .xF he ?_ ?_
       refine .skip ?_
       refine .seq ?_
       refine .vW [] (some ([0, 1], [1, 2, 3, 4, 8, 9, 10, 11])) [] trivial ?_ ?_
       cases hF
       exact .xR hE [] [] (by kernel_rfl)
       all_goals kernel_rfl
      all_goals kernel_rfl
     all_goals kernel_rfl
    ·
     refine .uB [0, 1, 2] [3, 4, 5, 6] [] [] rfl trivial ?_ ?_
     rcases condE hF with ⟨he, hF⟩ | ⟨he, hF⟩
     ·
      refine WT.putB [92, 91] he ?_ ?_
      refine .vE [] (some ([0, 1], [1, 2, 3, 4, 8, 9, 10, 11, 16, 17, 96])) [] trivial ?_ ?_
      exact .xS [.pick [0, 1] [1, 2, 3, 4, 8, 9, 10, 11, 16, 17, 96]] (hJJ13 (true) hF) (by kernel_rfl)
      all_goals kernel_rfl
     ·
      refine WT.putB [92, 91] he ?_ ?_
      refine .uN [3] [4, 5, 6] [] [] rfl trivial ?_ ?_
      obtain ⟨r14, h49, hF⟩ := bindE hF
      refine .uC false [] (S_spec_IsPublic k r12.1 r14 h49) rfl ?_ ?_
      refine .vE [] (some ([0, 1], [1, 2, 3, 4, 8, 9, 10, 11, 16, 17, 96])) [] trivial ?_ ?_
      exact .xS [.pick [0, 1] [1, 2, 3, 4, 8, 9, 10, 11, 16, 17, 96]] (hJJ13 (!r14) hF) (by kernel_rfl)
      all_goals kernel_rfl
     all_goals kernel_rfl
    all_goals kernel_rfl
   ·
    refine .xF he ?_ ?_
    refine .seq ?_
    refine .seq ?_
    refine .xW [] (some ([0, 1], [1, 2, 3, 4, 8, 9, 10, 11, 12, 53, 112])) ⟨[(1, vV none tyI a2), (2, sS a3), (3, iI a4), (4, pT 0 0), (8, pT 1 0), (9, iI 0), (10, iI 0), (11, iI 0), (12, .p (.c (.int .u8 (bt a3 a4)))), (53, .p (.c (.int .u8 (bt a3 a4)))), (112, bB ((bt a3 a4) == 60))], [.box [.vw none tyIII a1], .box [.nilsl]]⟩ [] trivial ?_ ?_
    refine WT.join (f := fun v21 => F_spec_l10Run_J19 k a1 a2 a3 a4 q_spec_l10Run v21) (r := r) (S := fun v21 => ⟨[(1, vV none tyI a2), (2, sS a3), (3, iI a4), (4, pT 0 0), (8, pT 1 0), (9, iI 0), (10, iI 0), (11, iI 0), (12, .p (.c (.int .u8 (bt a3 a4)))), (53, .p (.c (.int .u8 (bt a3 a4)))), (112, bB v21)], [.box [.vw none tyIII a1], .box [.nilsl]]⟩) (fun v21 hF => ?_) (fun hJJ19 => ?_)
    ·
     unfold F_spec_l10Run_J19 at hF
     rcases condE hF with ⟨he, hF⟩ | ⟨he, hF⟩
     ·
      refine .xT he ?_ ?_
      refine .seq ?_
      refine .uB [0, 1, 2, 3, 4] [5, 6, 7, 8, 9, 10, 11, 12, 13, 14, 15] [] [] rfl trivial ?_ ?_
      obtain ⟨r23, h52, hF⟩ := bindE hF
      refine .uC false [] (hq_spec_l10Run a1 a2 a3 (w64 (a4 + 1)) r23 h52) rfl ?_ ?_
      refine .vE [] (some ([0, 1, 2], [1, 2, 3, 4, 8, 9, 10, 11, 12, 21, 22, 23, 24])) [] trivial ?_ ?_
      refine .seq ?_
      refine .seq ?_
      refine .xW [] (some ([0, 1, 2], [1, 2, 3, 4, 8, 9, 10, 11, 12, 21, 22, 23, 24, 128])) ⟨[(1, vV none tyI a2), (2, sS a3), (3, iI a4), (4, pT 0 0), (8, pT 1 0), (9, iI 0), (10, iI 0), (11, iI 0), (12, .p (.c (.int .u8 (bt a3 a4)))), (21, pT 2 0), (22, iI r23.2.1), (23, iI r23.2.2.1), (24, iI r23.2.2.2), (128, bB (r23.2.2.2 != 0))], [.box [.vw none tyIII a1], .box [.nilsl], .box [.vw none tyIII r23.1]]⟩ [] trivial ?_ ?_
      rcases condE hF with ⟨he, hF⟩ | ⟨he, hF⟩
      ·
       refine .xT he ?_ ?_
       refine .seq ?_
       refine .vW [] (some ([0, 1, 2], [1, 2, 3, 4, 8, 9, 10, 11, 12, 21, 22, 23])) [] trivial ?_ ?_
       cases hF
       exact .xR hE [] [] (by kernel_rfl)
       all_goals kernel_rfl
      ·
       refine .xF he ?_ ?_
       refine .skip ?_
       refine .seq ?_
       refine .uB [0, 1, 2] [3, 4] [] [] rfl trivial ?_ ?_
       obtain ⟨r25, h51, hF⟩ := bindE hF
       refine .uC false [] (S_spec_l10Apply k r23.1 (bt a3 a4) r23.2.1 r25 h51) rfl ?_ ?_
       refine .vE [] (some ([0, 1, 2], [1, 2, 3, 4, 8, 9, 10, 11, 21, 23, 25])) [] trivial ?_ ?_
       refine .seq ?_
       refine .seq ?_
       refine .xW [] (some ([0, 1, 2], [1, 2, 3, 4, 8, 9, 10, 11, 21, 23, 25, 137])) ⟨[(1, vV none tyI a2), (2, sS a3), (3, iI a4), (4, pT 0 0), (8, pT 1 0), (9, iI 0), (10, iI 0), (11, iI 0), (21, pT 2 0), (23, iI r23.2.2.1), (25, iI r25), (137, bB (decide (r25 < 0)))], [.box [.vw none tyIII a1], .box [.nilsl], .box [.vw none tyIII r23.1]]⟩ [] trivial ?_ ?_
       rcases condE hF with ⟨he, hF⟩ | ⟨he, hF⟩
       ·
        refine .xT he ?_ ?_
        refine .seq ?_
        refine .vW [] (some ([0, 1, 2], [1, 2, 3, 4, 8, 9, 10, 11, 21, 23, 25])) [] trivial ?_ ?_
        cases hF
        exact .xR hE [] [] (by kernel_rfl)
        all_goals kernel_rfl
       ·
        refine .xF he ?_ ?_
        refine .skip ?_
        refine .seq ?_
        refine .vW [] (some ([0, 1], [1, 2, 3, 4, 8, 9, 10, 11])) [] trivial ?_ ?_
        cases hF
        exact .xR hE [] [] (by kernel_rfl)
        all_goals kernel_rfl
       all_goals kernel_rfl
      all_goals kernel_rfl
     ·
      refine .xF he ?_ ?_
      refine .seq ?_
      refine .seq ?_
      refine .xW [] (some ([0, 1], [1, 2, 3, 4, 8, 9, 10, 11, 12, 53, 143])) ⟨[(1, vV none tyI a2), (2, sS a3), (3, iI a4), (4, pT 0 0), (8, pT 1 0), (9, iI 0), (10, iI 0), (11, iI 0), (12, .p (.c (.int .u8 (bt a3 a4)))), (53, .p (.c (.int .u8 (bt a3 a4)))), (143, bB ((bt a3 a4) == 111))], [.box [.vw none tyIII a1], .box [.nilsl]]⟩ [] trivial ?_ ?_
      refine WT.join (f := fun v28 => F_spec_l10Run_J27 k a1 a2 a3 a4 q_spec_l10Run v28) (r := r) (S := fun v28 => ⟨[(1, vV none tyI a2), (2, sS a3), (3, iI a4), (4, pT 0 0), (8, pT 1 0), (9, iI 0), (10, iI 0), (11, iI 0), (12, .p (.c (.int .u8 (bt a3 a4)))), (143, bB v28)], [.box [.vw none tyIII a1], .box [.nilsl]]⟩) (fun v28 hF => ?_) (fun hJJ27 => ?_)
      ·
       unfold F_spec_l10Run_J27 at hF
       rcases condE hF with ⟨he, hF⟩ | ⟨he, hF⟩
       ·
        refine .xT he ?_ ?_
        refine .seq ?_
        refine .uB [0, 1, 2, 3, 4] [5, 6, 7, 8, 9, 10, 11, 12, 13, 14, 15, 16, 17] [] [] rfl trivial ?_ ?_
        obtain ⟨r30, h54, hF⟩ := bindE hF
        refine .uC false [] (S_spec_l10Two k q_spec_l10Run hq_spec_l10Run a1 a2 a3 (w64 (a4 + 1)) true 41 r30 h54) rfl ?_ ?_
        refine .vE [] (some ([0, 1, 2], [1, 2, 3, 4, 8, 9, 10, 11, 12, 26, 27, 28, 29, 30])) [] trivial ?_ ?_
        refine .seq ?_
        refine .seq ?_
        refine .xW [] (some ([0, 1, 2], [1, 2, 3, 4, 8, 9, 10, 11, 12, 26, 27, 28, 29, 30, 159])) ⟨[(1, vV none tyI a2), (2, sS a3), (3, iI a4), (4, pT 0 0), (8, pT 1 0), (9, iI 0), (10, iI 0), (11, iI 0), (12, .p (.c (.int .u8 (bt a3 a4)))), (26, pT 2 0), (27, iI r30.2.1), (28, iI r30.2.2.1), (29, iI r30.2.2.2.1), (30, iI r30.2.2.2.2), (159, bB (r30.2.2.2.2 != 0))], [.box [.vw none tyIII a1], .box [.nilsl], .box [.vw none tyIII r30.1]]⟩ [] trivial ?_ ?_
        rcases condE hF with ⟨he, hF⟩ | ⟨he, hF⟩
        ·
         refine .xT he ?_ ?_
         refine .seq ?_
         refine .vW [] (some ([0, 1, 2], [1, 2, 3, 4, 8, 9, 10, 11, 12, 26, 27, 28, 29])) [] trivial ?_ ?_
         cases hF
         exact .xR hE [] [] (by kernel_rfl)
         all_goals kernel_rfl
        ·
         refine .xF he ?_ ?_
         refine .skip ?_
         refine .seq ?_
         refine .uB [0, 1, 2, 3] [4, 5, 6, 7, 8, 9, 10, 11, 12] [] [] rfl trivial ?_ ?_
         obtain ⟨r32, h53, hF⟩ := bindE hF
         refine .uC false [] (S_spec_l10Both k r30.1 (bt a3 a4) r30.2.1 r30.2.2.1 r32 h53) rfl ?_ ?_
         refine .vE [] (some ([0, 1, 3], [1, 2, 3, 4, 8, 9, 10, 11, 29, 31, 32, 33])) [] trivial ?_ ?_
         refine .seq ?_
         refine .vW [] (some ([0, 1], [1, 2, 3, 4, 8, 9, 10, 11, 29])) [] trivial ?_ ?_
         cases hF
         exact .xR hE [] [] (by kernel_rfl)
         all_goals kernel_rfl
        all_goals kernel_rfl
       ·
        refine .xF he ?_ ?_
        refine .skip ?_
        refine .inBlock ?_
        refine .seq ?_
        refine .uB [0, 1] [2, 3, 4, 5, 6, 7, 8, 9] [] [] rfl trivial ?_ ?_
        obtain ⟨r33, h58, hF⟩ := bindE hF
        refine .uC false [] (S_spec_l4Kind k a3 a4 r33 h58) rfl ?_ ?_
        refine .vE [] (some ([0, 1], [1, 2, 3, 4, 8, 9, 10, 11, 34, 35, 36])) [] trivial ?_ ?_
        refine .seq ?_
        refine .vW [] (some ([0, 1, 2], [1, 2, 3, 4, 8, 9, 10, 11, 34, 35, 36, 37])) [] trivial ?_ ?_
        refine .seq ?_
        refine .xW [] (some ([0, 1, 2, 3], [1, 2, 3, 4, 8, 9, 10, 11, 34, 35, 36, 37, 38, 39, 40])) ⟨[(1, vV none tyI a2), (2, sS a3), (3, iI a4), (4, pT 0 0), (8, pT 1 0), (9, iI 0), (10, iI 0), (11, iI 0), (34, iI r33.1), (35, iI r33.2.1), (36, .p (.c (.int .u8 r33.2.2))), (37, pT 2 0), (38, pT 3 0), (39, iI a4), (40, iI 3)], [.box [.vw none tyIII a1], .box [.nilsl], .box [ci r33.1, ci 0, ci 0], .box [.vw none tyIII a1]]⟩ [] trivial ?_ ?_
        refine .seq ?_
        refine WT.join (f := fun v41 => F_spec_l10Run_J34 k r33 v41) (r := r) (S := fun v41 => ⟨[(8, pT 0 0), (9, iI 0), (10, iI 0), (11, iI 0), (37, pT 1 0), (38, pT 2 0), (39, iI v41.1), (40, iI v41.2.1)], [.box [.nilsl], .box [ci r33.1, ci v41.2.2.1, ci v41.2.2.2.1], .box [.vw none tyIII v41.2.2.2.2]]⟩) (fun v41 hF => ?_) (fun hJJ34 => ?_)
        ·
         unfold F_spec_l10Run_J34 at hF
         refine .seq ?_
         refine .seq ?_
         refine .xW [] (some ([0, 1, 2], [8, 9, 10, 11, 37, 38, 39, 40, 227])) ⟨[(8, pT 0 0), (9, iI 0), (10, iI 0), (11, iI 0), (37, pT 1 0), (38, pT 2 0), (39, iI v41.1), (40, iI v41.2.1), (227, bB (v41.2.1 != 0))], [.box [.nilsl], .box [ci r33.1, ci v41.2.2.1, ci v41.2.2.2.1], .box [.vw none tyIII v41.2.2.2.2]]⟩ [] trivial ?_ ?_
         rcases condE hF with ⟨he, hF⟩ | ⟨he, hF⟩
         ·
          refine .xT he ?_ ?_
          refine .seq ?_
          refine .vW [] (some ([0, 1, 2], [8, 9, 10, 11, 37, 38, 39])) [] trivial ?_ ?_
          cases hF
          exact .xR hE [] [] (by kernel_rfl)
          all_goals kernel_rfl
         ·
          refine .xF he ?_ ?_
          refine .skip ?_
          refine .seq ?_
          refine .uB [0, 1] [2, 3, 4, 5, 6, 7, 8] [] [] rfl trivial ?_ ?_
          obtain ⟨r43, h55, hF⟩ := bindE hF
          refine .uC false [] (S_spec_l1Add k v41.2.2.2.2 r33.1 v41.2.2.1 v41.2.2.2.1 r43 h55) rfl ?_ ?_
          refine .vE [] (some ([0, 2, 3], [8, 9, 10, 11, 38, 39, 41, 42])) [] trivial ?_ ?_
          refine .seq ?_
          refine .seq ?_
          refine .xW [] (some ([0, 1, 2], [8, 9, 10, 11, 38, 39, 41, 42, 238])) ⟨[(8, pT 0 0), (9, iI 0), (10, iI 0), (11, iI 0), (38, pT 1 0), (39, iI v41.1), (41, pT 2 0), (42, iI r43.2), (238, bB (decide (r43.2 < 0)))], [.box [.nilsl], .box [.vw none tyIII v41.2.2.2.2], .box [.vw none tyIII r43.1]]⟩ [] trivial ?_ ?_
          rcases condE hF with ⟨he, hF⟩ | ⟨he, hF⟩
          ·
           refine .xT he ?_ ?_
           refine .seq ?_
           refine .vW [] (some ([0, 2], [8, 9, 10, 11, 39, 41, 42])) [] trivial ?_ ?_
           cases hF
           exact .xR hE [] [] (by kernel_rfl)
           all_goals kernel_rfl
          ·
           refine .xF he ?_ ?_
           refine .skip ?_
           refine .seq ?_
           refine .vW [] (some ([0], [8, 9, 10, 11])) [] trivial ?_ ?_
           cases hF
           exact .xR hE [] [] (by kernel_rfl)
           all_goals kernel_rfl
          all_goals kernel_rfl
         all_goals kernel_rfl
        ·
         refine .block ?_
         refine .seq ?_
         refine WT.join (f := fun v36 => F_spec_l10Run_J35 k a1 a2 a3 a4 q_spec_l10Run r33 v36) (r := r) (S := fun v36 => ⟨[(1, vV none tyI a2), (2, sS a3), (3, iI a4), (4, pT 0 0), (8, pT 1 0), (9, iI 0), (10, iI 0), (11, iI 0), (34, iI r33.1), (35, iI r33.2.1), (36, .p (.c (.int .u8 r33.2.2))), (37, pT 2 0), (38, pT 3 0), (39, iI a4), (40, iI 3), (187, bB v36)], [.box [.vw none tyIII a1], .box [.nilsl], .box [ci r33.1, ci 0, ci 0], .box [.vw none tyIII a1]]⟩) (fun v36 hF => ?_) (fun hJJ35 => ?_)
         ·
          unfold F_spec_l10Run_J35 at hF
          rcases condE hF with ⟨he, hF⟩ | ⟨he, hF⟩
          ·
           refine .xT he ?_ ?_
           refine .uB [0, 1, 2, 3, 4, 5, 6, 7] [8, 9, 10, 11, 12, 13, 14, 15, 16, 17, 18, 19, 20, 21] [] [] rfl trivial ?_ ?_
           obtain ⟨r38, h56, hF⟩ := bindE hF
           refine .uC false [] (S_spec_l10Two k q_spec_l10Run hq_spec_l10Run a1 a2 a3 (w64 (a4 + 1)) (r33.2.1 == 2) r33.2.2 r38 h56) rfl ?_ ?_
           refine .vE [] (some ([1, 2, 3], [8, 9, 10, 11, 37, 38, 39, 40])) [] trivial ?_ ?_
           refine .inBlock ?_
           exact .xS [.pick [0, 1, 2] [8, 9, 10, 11, 37, 38, 39, 40]] (hJJ34 (r38.2.2.2.1, r38.2.2.2.2, r38.2.1, r38.2.2.1, r38.1) hF) (by kernel_rfl)
           all_goals kernel_rfl
          ·
           refine .xF he ?_ ?_
           refine .seq ?_
           refine .xW [] (some ([0, 1, 2, 3], [1, 2, 3, 4, 8, 9, 10, 11, 37, 38, 39, 40, 211])) ⟨[(1, vV none tyI a2), (2, sS a3), (3, iI a4), (4, pT 0 0), (8, pT 1 0), (9, iI 0), (10, iI 0), (11, iI 0), (37, pT 2 0), (38, pT 3 0), (39, iI a4), (40, iI 3), (211, bB (decide (r33.1 > 0)))], [.box [.vw none tyIII a1], .box [.nilsl], .box [ci r33.1, ci 0, ci 0], .box [.vw none tyIII a1]]⟩ [] trivial ?_ ?_
           rcases condE hF with ⟨he, hF⟩ | ⟨he, hF⟩
           ·
            refine .xT he ?_ ?_
            refine .uB [0, 1, 2, 3, 4] [5, 6, 7, 8, 9, 10, 11, 12, 13, 14, 15] [] [] rfl trivial ?_ ?_
            obtain ⟨r40, h57, hF⟩ := bindE hF
            refine .uC false [] (hq_spec_l10Run a1 a2 a3 (w64 (a4 + 1)) r40 h57) rfl ?_ ?_
            refine .vE [] (some ([1, 2, 3], [8, 9, 10, 11, 37, 38, 39, 40])) [] trivial ?_ ?_
            refine .inBlock ?_
            exact .xS [.pick [0, 1, 2] [8, 9, 10, 11, 37, 38, 39, 40]] (hJJ34 (r40.2.2.1, r40.2.2.2, r40.2.1, 0, r40.1) hF) (by kernel_rfl)
            all_goals kernel_rfl
           ·
            refine .xF he ?_ ?_
            refine .skip ?_
            refine .inBlock ?_
            exact .xS [.pick [1, 2, 3] [8, 9, 10, 11, 37, 38, 39, 40]] (hJJ34 (a4, 3, 0, 0, a1) hF) (by kernel_rfl)
            all_goals kernel_rfl
           all_goals kernel_rfl
          all_goals kernel_rfl
         ·
          refine .uB [0, 1, 2] [3, 4, 5, 6] [] [] rfl trivial ?_ ?_
          rcases condE hF with ⟨he, hF⟩ | ⟨he, hF⟩
          ·
           refine WT.putB [190, 189] he ?_ ?_
           refine .vE [] (some ([0, 1, 2, 3], [1, 2, 3, 4, 8, 9, 10, 11, 34, 35, 36, 37, 38, 39, 40, 187])) [] trivial ?_ ?_
           exact .xS [.pick [0, 1, 2, 3] [1, 2, 3, 4, 8, 9, 10, 11, 34, 35, 36, 37, 38, 39, 40, 187]] (hJJ35 (decide (r33.2.2 > 0)) hF) (by kernel_rfl)
           all_goals kernel_rfl
          ·
           refine WT.putB [190, 189] he ?_ ?_
           refine .vE [] (some ([0, 1, 2, 3], [1, 2, 3, 4, 8, 9, 10, 11, 34, 35, 36, 37, 38, 39, 40, 187])) [] trivial ?_ ?_
           exact .xS [.pick [0, 1, 2, 3] [1, 2, 3, 4, 8, 9, 10, 11, 34, 35, 36, 37, 38, 39, 40, 187]] (hJJ35 (false) hF) (by kernel_rfl)
           all_goals kernel_rfl
          all_goals kernel_rfl
         all_goals kernel_rfl
        all_goals kernel_rfl
       all_goals kernel_rfl
      ·
       rcases condE hF with ⟨he, hF⟩ | ⟨he, hF⟩
       ·
        refine WT.putB [143] he ?_ ?_
        refine .yT ?_ ?_
        refine .skip ?_
        exact .xS [.pick [0, 1] [1, 2, 3, 4, 8, 9, 10, 11, 12, 143]] (hJJ27 (true) hF) (by kernel_rfl)
        all_goals kernel_rfl
       ·
        refine WT.putB [143] he ?_ ?_
        refine .yF ?_ ?_
        refine .vW [] (some ([0, 1], [1, 2, 3, 4, 8, 9, 10, 11, 12, 143])) [] trivial ?_ ?_
        exact .xS [.pick [0, 1] [1, 2, 3, 4, 8, 9, 10, 11, 12, 143]] (hJJ27 ((bt a3 a4) == 120) hF) (by kernel_rfl)
        all_goals kernel_rfl
       all_goals kernel_rfl
      all_goals kernel_rfl
     all_goals kernel_rfl
    ·
     rcases condE hF with ⟨he, hF⟩ | ⟨he, hF⟩
     ·
      refine WT.putB [112] he ?_ ?_
      refine .yT ?_ ?_
      refine .skip ?_
      exact .xS [.pick [0, 1] [1, 2, 3, 4, 8, 9, 10, 11, 12, 53, 112]] (hJJ19 (true) hF) (by kernel_rfl)
      all_goals kernel_rfl
     ·
      refine WT.putB [112] he ?_ ?_
      refine .yF ?_ ?_
      refine .seq ?_
      refine .xW [] (some ([0, 1], [1, 2, 3, 4, 8, 9, 10, 11, 12, 53, 112])) ⟨[(1, vV none tyI a2), (2, sS a3), (3, iI a4), (4, pT 0 0), (8, pT 1 0), (9, iI 0), (10, iI 0), (11, iI 0), (12, .p (.c (.int .u8 (bt a3 a4)))), (53, .p (.c (.int .u8 (bt a3 a4)))), (112, bB ((bt a3 a4) == 62))], [.box [.vw none tyIII a1], .box [.nilsl]]⟩ [] trivial ?_ ?_
      rcases condE hF with ⟨he, hF⟩ | ⟨he, hF⟩
      ·
       refine WT.putB [112] he ?_ ?_
       refine .yT ?_ ?_
       refine .skip ?_
       exact .xS [.pick [0, 1] [1, 2, 3, 4, 8, 9, 10, 11, 12, 53, 112]] (hJJ19 (true) hF) (by kernel_rfl)
       all_goals kernel_rfl
      ·
       refine WT.putB [112] he ?_ ?_
       refine .yF ?_ ?_
       refine .vW [] (some ([0, 1], [1, 2, 3, 4, 8, 9, 10, 11, 12, 53, 112])) [] trivial ?_ ?_
       exact .xS [.pick [0, 1] [1, 2, 3, 4, 8, 9, 10, 11, 12, 53, 112]] (hJJ19 ((bt a3 a4) == 33) hF) (by kernel_rfl)
       all_goals kernel_rfl
      all_goals kernel_rfl
     all_goals kernel_rfl
    all_goals kernel_rfl
   all_goals kernel_rfl
  all_goals kernel_rfl
 all_goals kernel_rfl
theorem S_spec_l10Run (k : Nat) : ∀ (m : Nat) (a1 : (List (Int × (Int × Int)))) (a2 : (List Int)) (a3 : ByteArray) (a4 : Int) (r : (List (Int × (Int × Int))) × Int × Int × Int), F_spec_l10Run k m a1 a2 a3 a4 = some r → Spec Tryz.prog 107 [aG [.vw none tyIII a1], vV none tyI a2, sS a3, iI a4] [] (.tup [.agg [.vw none tyIII r.1], .c (ci r.2.1), .c (ci r.2.2.1), .c (ci r.2.2.2)]) [] := by
  intro m
  induction m with
  | zero => intro a1 a2 a3 a4 r h; cases h
  | succ m ih => intro a1 a2 a3 a4 r h; exact S_spec_l10Run_B k (F_spec_l10Run k m) ih a1 a2 a3 a4 r h
theorem S_spec_RecipeRun (k : Nat) (a1 : (List (Int × (Int × Int)))) (a2 : (List Int)) (a3 : ByteArray) (r : Int × Int × Int × (List (Int × (Int × Int)))) (hF : F_spec_RecipeRun k a1 a2 a3 = some r) : Spec Tryz.prog 77 [aG [.vw none tyIII a1], vV none tyI a2, sS a3] [] (.tup [.agg [.sl 0], .c (ci r.1), .c (ci r.2.1), .c (ci r.2.2.1)]) [.row tyIII r.2.2.2] := by
 refine Spec.of 0 56 Tryz.func77 rfl rfl (Nat.le_of_ble_eq_true rfl) rfl fun w0 S0 Z0 M0 R0 hE => ?_
 unfold F_spec_RecipeRun at hF
 refine .seq ?_
 refine .vW [] (some ([0, 1], [1, 2, 3, 6, 7, 8, 9])) [] trivial ?_ ?_
 refine .seq ?_
 refine .xW [] (some ([0, 1, 2], [1, 2, 3, 6, 7, 8, 9, 10])) ⟨[(1, vV none tyI a2), (2, sS a3), (3, pT 0 0), (6, pT 1 0), (7, iI 0), (8, iI 0), (9, iI 0), (10, pT 2 0)], [.box [.vw none tyIII a1], .box [.nilsl], .box [.nilsl]]⟩ [] trivial ?_ ?_
 refine .seq ?_
 refine .seq ?_
 refine .uB [0] [1] [] [] rfl trivial ?_ ?_
 obtain ⟨r1, h17, hF⟩ := bindE hF
 refine .uC false [] (S_spec_PoolOk k a1 r1 h17) rfl ?_ ?_
 refine .xE [] (some ([0, 1, 2], [1, 2, 3, 6, 7, 8, 9, 10, 17])) ⟨[(1, vV none tyI a2), (2, sS a3), (3, pT 0 0), (6, pT 1 0), (7, iI 0), (8, iI 0), (9, iI 0), (10, pT 2 0), (17, bB r1)], [.box [.vw none tyIII a1], .box [.nilsl], .box [.nilsl]]⟩ [] trivial ?_ ?_
 refine WT.join (f := fun v4 => F_spec_RecipeRun_J2 k a1 a2 a3 v4) (r := r) (S := fun v4 => ⟨[(1, vV none tyI a2), (2, sS a3), (3, pT 0 0), (6, pT 1 0), (7, iI 0), (8, iI 0), (9, iI 0), (10, pT 2 0)], [.box [.vw none tyIII a1], .box [.nilsl], .box [.sl 3], .row tyIII v4]⟩) (fun v4 hF => ?_) (fun hJJ2 => ?_)
 ·
  unfold F_spec_RecipeRun_J2 at hF
  refine .seq ?_
  refine .block ?_
  refine .seq ?_
  refine .xW [] (some ([0, 1, 2, 3], [1, 2, 3, 6, 7, 8, 9, 10, 20])) ⟨[(1, vV none tyI a2), (2, sS a3), (3, pT 0 0), (6, pT 1 0), (7, iI 0), (8, iI 0), (9, iI 0), (10, pT 2 0), (20, bB (decide ((a3.size : Int) > 2000)))], [.box [.vw none tyIII a1], .box [.nilsl], .box [.sl 3], .row tyIII v4]⟩ [] trivial ?_ ?_
  rcases condE hF with ⟨he, hF⟩ | ⟨he, hF⟩
  ·
   refine .xT he ?_ ?_
   refine .seq ?_
   refine .vW [] (some ([0, 1, 2, 3], [1, 2, 3, 6, 7, 8, 9, 10])) [] trivial ?_ ?_
   cases hF
   exact .xR hE [] [3] (by kernel_rfl)
   all_goals kernel_rfl
  ·
   refine .xF he ?_ ?_
   refine .seq ?_
   refine .uB [0, 1] [2, 3, 4] [] [] rfl trivial ?_ ?_
   obtain ⟨r7, h15, hF⟩ := bindE hF
   refine .uC false [] (S_spec_KnowOk k a1 a2 r7 h15) rfl ?_ ?_
   refine .xE [] (some ([0, 1, 2, 3], [1, 2, 3, 6, 7, 8, 9, 10, 25])) ⟨[(1, vV none tyI a2), (2, sS a3), (3, pT 0 0), (6, pT 1 0), (7, iI 0), (8, iI 0), (9, iI 0), (10, pT 2 0), (25, bB (!r7))], [.box [.vw none tyIII a1], .box [.nilsl], .box [.sl 3], .row tyIII v4]⟩ [] trivial ?_ ?_
   rcases condE hF with ⟨he, hF⟩ | ⟨he, hF⟩
   ·
    refine .xT he ?_ ?_
    refine .seq ?_
    refine .vW [] (some ([0, 1, 2, 3], [1, 2, 3, 6, 7, 8, 9, 10])) [] trivial ?_ ?_
    cases hF
    exact .xR hE [] [3] (by kernel_rfl)
    all_goals kernel_rfl
   ·
    refine .xF he ?_ ?_
    refine .skip ?_
    refine .inBlock ?_
    refine .seq ?_
    refine .uB [0, 1, 2] [3, 4, 5, 6, 7, 8, 9, 10, 11, 12, 13] [] [] rfl trivial ?_ ?_
    obtain ⟨r9, h14, hF⟩ := bindE hF
    refine .uC false [] (S_spec_l10Run k k a1 a2 a3 0 r9 h14) rfl ?_ ?_
    refine .vE [] (some ([1, 2, 4, 3], [2, 6, 7, 8, 9, 10, 11, 12, 13, 14])) [] trivial ?_ ?_
    refine .seq ?_
    refine .seq ?_
    refine .xW [] (some ([0, 1, 2, 3], [2, 6, 7, 8, 9, 10, 11, 12, 13, 14, 41])) ⟨[(2, sS a3), (6, pT 0 0), (7, iI 0), (8, iI 0), (9, iI 0), (10, pT 1 0), (11, pT 2 0), (12, iI r9.2.1), (13, iI r9.2.2.1), (14, iI r9.2.2.2), (41, bB (r9.2.2.2 != 0))], [.box [.nilsl], .box [.sl 3], .box [.vw none tyIII r9.1], .row tyIII v4]⟩ [] trivial ?_ ?_
    rcases condE hF with ⟨he, hF⟩ | ⟨he, hF⟩
    ·
     refine .xT he ?_ ?_
     refine .seq ?_
     refine .vW [] (some ([0, 1, 2, 3], [2, 6, 7, 8, 9, 10, 11, 12, 13, 14])) [] trivial ?_ ?_
     cases hF
     exact .xR hE [] [3] (by kernel_rfl)
     all_goals kernel_rfl
    ·
     refine .xF he ?_ ?_
     refine .skip ?_
     refine .seq ?_
     refine .seq ?_
     refine .xW [] (some ([0, 1, 2, 3], [6, 7, 8, 9, 10, 11, 12, 13, 14, 48])) ⟨[(6, pT 0 0), (7, iI 0), (8, iI 0), (9, iI 0), (10, pT 1 0), (11, pT 2 0), (12, iI r9.2.1), (13, iI r9.2.2.1), (14, iI r9.2.2.2), (48, bB (decide (r9.2.2.1 < (a3.size : Int))))], [.box [.nilsl], .box [.sl 3], .box [.vw none tyIII r9.1], .row tyIII v4]⟩ [] trivial ?_ ?_
     rcases condE hF with ⟨he, hF⟩ | ⟨he, hF⟩
     ·
      refine .xT he ?_ ?_
      refine .seq ?_
      refine .vW [] (some ([0, 2, 3], [6, 7, 8, 9, 11, 12, 13, 14])) [] trivial ?_ ?_
      cases hF
      exact .xR hE [] [2] (by kernel_rfl)
      all_goals kernel_rfl
     ·
      refine .xF he ?_ ?_
      refine .skip ?_
      refine .seq ?_
      refine .uB [0] [1, 2, 3, 4, 5, 6, 7, 8] [] [] rfl trivial ?_ ?_
      obtain ⟨r12, h13, hF⟩ := bindE hF
      refine .uC false [] (S_spec_l1Copy k r9.1 r12 h13) rfl ?_ ?_
      refine .vE [] (some ([0, 4], [6, 7, 8, 9])) [] trivial ?_ ?_
      cases hF
      exact .xR hE [] [1] (by kernel_rfl)
      all_goals kernel_rfl
     all_goals kernel_rfl
    all_goals kernel_rfl
   all_goals kernel_rfl
  all_goals kernel_rfl
 ·
  rcases condE hF with ⟨he, hF⟩ | ⟨he, hF⟩
  ·
   refine .xT he ?_ ?_
   refine .uB [0] [1, 2] [] [] rfl trivial ?_ ?_
   obtain ⟨r3, h16, hF⟩ := bindE hF
   refine .uC false [] (S_spec_l1Copy k a1 r3 h16) rfl ?_ ?_
   refine .vE [] (some ([0, 1, 2, 3], [1, 2, 3, 6, 7, 8, 9, 10])) [] trivial ?_ ?_
   exact .xS [.pick [0, 1, 2, 3] [1, 2, 3, 6, 7, 8, 9, 10]] (hJJ2 (([] : List (Int × (Int × Int))) ++ a1) hF) (by kernel_rfl)
   all_goals kernel_rfl
  ·
   refine .xF he ?_ ?_
   refine .skip ?_
   exact .xS [.nrb 2 0 tyIII, .pick [0, 1, 2, 3] [1, 2, 3, 6, 7, 8, 9, 10]] (hJJ2 (([] : List (Int × (Int × Int)))) hF) (by kernel_rfl)
   all_goals kernel_rfl
  all_goals kernel_rfl
 all_goals kernel_rfl
theorem S_spec_LinkOk (k : Nat) (a1 : (List (Int × (Int × Int)))) (a2 : Int) (a3 : Int) (a4 : Int) (a5 : Bool) (r : Bool) (hF : F_spec_LinkOk k a1 a2 a3 a4 a5 = some r) : Spec Tryz.prog 108 [aG [.vw none tyIII a1], aG [ci a2, ci a3, ci a4, .bool a5]] [] (bB r) [] := by
 refine Spec.of 0 12 Tryz.func108 rfl rfl (Nat.le_of_ble_eq_true rfl) rfl fun w0 S0 Z0 M0 R0 hE => ?_
 unfold F_spec_LinkOk at hF
 refine .seq ?_
 refine .xW [] (some ([0, 1], [2, 3, 4])) ⟨[(2, pT 0 0), (3, pT 1 0), (4, bB false)], [.box [.vw none tyIII a1], .box [ci a2, ci a3, ci a4, .bool a5]]⟩ [] trivial ?_ ?_
 refine .seq ?_
 refine .uB [0] [1, 2, 3, 4, 5, 6, 7] [] [] rfl trivial ?_ ?_
 obtain ⟨r2, h5, hF⟩ := bindE hF
 refine .uC false [] (S_spec_PoolOk k a1 r2 h5) rfl ?_ ?_
 refine .uN [2] [3, 4, 5, 6, 7] [] [] rfl trivial ?_ ?_
 rcases condE hF with ⟨he, hF⟩ | ⟨he, hF⟩
 ·
  refine WT.putB [7, 6] he ?_ ?_
  refine .uN [3, 4] [5, 6, 7] [] [] rfl trivial ?_ ?_
  obtain ⟨r3, h4, hF⟩ := bindE hF
  refine .uC false [] (S_spec_l18Link k a1 a2 a3 a4 a5 r3 h4) rfl ?_ ?_
  refine .vE [] (some ([], [4])) [] trivial ?_ ?_
  cases hF
  exact .xR hE [] [] (by kernel_rfl)
  all_goals kernel_rfl
 ·
  refine WT.putB [7, 6] he ?_ ?_
  refine .vE [] (some ([], [4])) [] trivial ?_ ?_
  cases hF
  exact .xR hE [] [] (by kernel_rfl)
  all_goals kernel_rfl
 all_goals kernel_rfl
theorem S_spec_LinkTake (k : Nat) (a1 : (List (Int × (Int × Int)))) (a2 : Int) (a3 : Int) (a4 : Int) (a5 : Bool) (a6 : Int) (r : Int × Bool × Int × Int) (hF : F_spec_LinkTake k a1 a2 a3 a4 a5 a6 = some r) : Spec Tryz.prog 78 [aG [.vw none tyIII a1], aG [ci a2, ci a3, ci a4, .bool a5], iI a6] [] (.tup [.agg [ci a2, ci a3, ci r.1, .bool r.2.1], .c (ci r.2.2.1), .c (ci r.2.2.2)]) [] := by
 refine Spec.of 0 91 Tryz.func78 rfl rfl (Nat.le_of_ble_eq_true rfl) rfl fun w0 S0 Z0 M0 R0 hE => ?_
 unfold F_spec_LinkTake at hF
 refine .seq ?_
 refine .xW [] (some ([0, 1, 2], [2, 3, 4, 6, 7, 8])) ⟨[(2, iI a6), (3, pT 0 0), (4, pT 1 0), (6, pT 2 0), (7, iI 0), (8, iI 0)], [.box [.vw none tyIII a1], .box [ci a2, ci a3, ci a4, .bool a5], .box [ci 0, ci 0, ci 0, .bool false]]⟩ [] trivial ?_ ?_
 refine .seq ?_
 refine .block ?_
 refine .seq ?_
 refine WT.join (f := fun v5 => F_spec_LinkTake_J2 k a1 a2 a4 a5 a6 v5) (r := r) (S := fun v5 => ⟨[(2, iI a6), (3, pT 0 0), (4, pT 1 0), (6, pT 2 0), (7, iI 0), (8, iI 0), (12, bB v5)], [.box [.vw none tyIII a1], .box [ci a2, ci a3, ci a4, .bool a5], .box [ci 0, ci 0, ci 0, .bool false]]⟩) (fun v5 hF => ?_) (fun hJJ2 => ?_)
 ·
  unfold F_spec_LinkTake_J2 at hF
  rcases condE hF with ⟨he, hF⟩ | ⟨he, hF⟩
  ·
   refine .xT he ?_ ?_
   refine .seq ?_
   refine .vW [] (some ([0, 1, 2], [2, 3, 4, 6, 7, 8])) [] trivial ?_ ?_
   cases hF
   exact .xR hE [] [] (by kernel_rfl)
   all_goals kernel_rfl
  ·
   refine .xF he ?_ ?_
   refine .seq ?_
   refine .xW [] (some ([0, 1, 2], [2, 3, 4, 6, 7, 8, 24])) ⟨[(2, iI a6), (3, pT 0 0), (4, pT 1 0), (6, pT 2 0), (7, iI 0), (8, iI 0), (24, bB a5)], [.box [.vw none tyIII a1], .box [ci a2, ci a3, ci a4, .bool a5], .box [ci 0, ci 0, ci 0, .bool false]]⟩ [] trivial ?_ ?_
   rcases condE hF with ⟨he, hF⟩ | ⟨he, hF⟩
   ·
    refine .xT he ?_ ?_
    refine .seq ?_
    refine .vW [] (some ([0, 1, 2], [2, 3, 4, 6, 7, 8])) [] trivial ?_ ?_
    cases hF
    exact .xR hE [] [] (by kernel_rfl)
    all_goals kernel_rfl
   ·
    refine .xF he ?_ ?_
    refine .skip ?_
    refine .inBlock ?_
    refine .seq ?_
    obtain ⟨x8, h21, hF⟩ := bindE hF
    refine .xW [.el tyIII x8] (some ([0, 1, 2, 3], [3, 4, 6, 7, 8, 9])) ⟨[(3, pT 0 0), (4, pT 1 0), (6, pT 2 0), (7, iI 0), (8, iI 0), (9, pT 3 0)], [.box [.vw none tyIII a1], .box [ci a2, ci a3, ci a4, .bool a5], .box [ci 0, ci 0, ci 0, .bool false], .box [ci x8.1, ci x8.2.1, ci x8.2.2]]⟩ [at? a1 a6 = some x8] ⟨h21, trivial⟩ ?_ ?_
    refine .seq ?_
    refine .seq ?_
    refine WT.join (f := fun v11 => F_spec_LinkTake_J9 k a1 a4 a5 x8 v11) (r := r) (S := fun v11 => ⟨[(3, pT 0 0), (4, pT 1 0), (6, pT 2 0), (7, iI 0), (8, iI 0), (9, pT 3 0), (52, bB v11)], [.box [.vw none tyIII a1], .box [ci a2, ci a3, ci a4, .bool a5], .box [ci 0, ci 0, ci 0, .bool false], .box [ci x8.1, ci x8.2.1, ci x8.2.2]]⟩) (fun v11 hF => ?_) (fun hJJ9 => ?_)
    ·
     unfold F_spec_LinkTake_J9 at hF
     rcases condE hF with ⟨he, hF⟩ | ⟨he, hF⟩
     ·
      refine .xT he ?_ ?_
      refine .seq ?_
      refine .vW [] (some ([0, 1, 2, 3], [3, 4, 6, 7, 8, 9])) [] trivial ?_ ?_
      cases hF
      exact .xR hE [] [] (by kernel_rfl)
      all_goals kernel_rfl
     ·
      refine .xF he ?_ ?_
      refine .skip ?_
      refine .seq ?_
      obtain ⟨x13, h22, hF⟩ := bindE hF
      refine .vW [.el tyIII x13] (some ([0, 1, 2, 4], [3, 4, 6, 7, 8, 10])) [at? a1 x8.2.1 = some x13] ⟨h22, trivial⟩ ?_ ?_
      refine .seq ?_
      refine .xW [] (some ([0, 1, 2, 3, 4], [3, 4, 6, 7, 8, 10, 11])) ⟨[(3, pT 0 0), (4, pT 1 0), (6, pT 2 0), (7, iI 0), (8, iI 0), (10, pT 3 0), (11, pT 4 0)], [.box [.vw none tyIII a1], .box [ci a2, ci a3, ci a4, .bool a5], .box [ci 0, ci 0, ci 0, .bool false], .box [ci x13.1, ci x13.2.1, ci x13.2.2], .box [ci 1, ci (w64 (20 + a4)), ci 0]]⟩ [] trivial ?_ ?_
      refine .seq ?_
      refine .seq ?_
      refine WT.join (f := fun v16 => F_spec_LinkTake_J14 k a1 a4 a5 x13 v16) (r := r) (S := fun v16 => ⟨[(3, pT 0 0), (4, pT 1 0), (6, pT 2 0), (7, iI 0), (8, iI 0), (10, pT 3 0), (76, bB v16)], [.box [.vw none tyIII a1], .box [ci a2, ci a3, ci a4, .bool a5], .box [ci 0, ci 0, ci 0, .bool false], .box [ci x13.1, ci x13.2.1, ci x13.2.2]]⟩) (fun v16 hF => ?_) (fun hJJ14 => ?_)
      ·
       unfold F_spec_LinkTake_J14 at hF
       rcases condE hF with ⟨he, hF⟩ | ⟨he, hF⟩
       ·
        refine .xT he ?_ ?_
        refine .seq ?_
        refine .vW [] (some ([0, 1, 2, 3], [3, 4, 6, 7, 8, 10])) [] trivial ?_ ?_
        cases hF
        exact .xR hE [] [] (by kernel_rfl)
        all_goals kernel_rfl
       ·
        refine .xF he ?_ ?_
        refine .skip ?_
        refine .seq ?_
        refine .seq ?_
        refine .uB [0, 1, 2] [3] [] [] rfl trivial ?_ ?_
        obtain ⟨r18, h24, hF⟩ := bindE hF
        refine .uC false [] (S_spec_l18End k a1 x13.2.2 r18 h24) rfl ?_ ?_
        refine .xE [] (some ([1, 2, 3], [4, 6, 7, 8, 10, 81])) ⟨[(4, pT 0 0), (6, pT 1 0), (7, iI 0), (8, iI 0), (10, pT 2 0), (81, bB r18)], [.box [ci a2, ci a3, ci a4, .bool a5], .box [ci 0, ci 0, ci 0, .bool false], .box [ci x13.1, ci x13.2.1, ci x13.2.2]]⟩ [] trivial ?_ ?_
        rcases condE hF with ⟨he, hF⟩ | ⟨he, hF⟩
        ·
         refine .xT he ?_ ?_
         refine .seq ?_
         refine .vW [] (some ([0, 1, 2], [4, 6, 7, 8, 10])) [] trivial ?_ ?_
         refine .seq ?_
         refine .vW [] (some ([0, 1, 2], [4, 6, 7, 8, 10])) [] trivial ?_ ?_
         cases hF
         exact .xR hE [] [] (by kernel_rfl)
         all_goals kernel_rfl
        ·
         refine .xF he ?_ ?_
         refine .skip ?_
         refine .seq ?_
         refine .xW [] (some ([0, 1, 2], [4, 6, 7, 8, 10])) ⟨[(4, pT 0 0), (6, pT 1 0), (7, iI 0), (8, iI 0), (10, pT 2 0)], [.box [ci a2, ci a3, ci (w64 (a4 + 1)), .bool a5], .box [ci 0, ci 0, ci 0, .bool false], .box [ci x13.1, ci x13.2.1, ci x13.2.2]]⟩ [] trivial ?_ ?_
         refine .seq ?_
         refine WA.xs [.cells 0 0 4, .cells 2 2 1] [.cells 1 0 4] ?_ ?_
         refine WA.fin 6 [] [] (some ([1], [6, 7, 8])) ⟨[(6, pT 0 0), (7, iI x13.2.2), (8, iI 0)], [.box [ci a2, ci a3, ci (w64 (a4 + 1)), .bool a5]]⟩ trivial ?_ ?_
         cases hF
         exact .xR hE [] [] (by kernel_rfl)
         all_goals kernel_rfl
        all_goals kernel_rfl
       all_goals kernel_rfl
      ·
       refine WA.xs [.cells 0 0 1, .cells 1 2 1, .cells 3 1 1, .cells 4 0 3, .dep none] [] ?_ ?_
       obtain ⟨x15, h25, hF⟩ := bindE hF
       refine WA.uR (fuel' := 4) (listed' := #[true, true, true, true, true, true, true, true, true, false, false, false, false]) 9 [.el tyIII x15] [at? a1 x13.2.1 = some x15] ⟨h25, trivial⟩ ?_ ?_
       rcases condE hF with ⟨he, hF⟩ | ⟨he, hF⟩
       ·
        refine WA.putB [72, 71] he ?_ ?_
        refine WA.fin 4 [] [] (some ([0, 1, 2, 3], [3, 4, 6, 7, 8, 10, 76])) ⟨[(3, pT 0 0), (4, pT 1 0), (6, pT 2 0), (7, iI 0), (8, iI 0), (10, pT 3 0), (76, bB true)], [.box [.vw none tyIII a1], .box [ci a2, ci a3, ci a4, .bool a5], .box [ci 0, ci 0, ci 0, .bool false], .box [ci x13.1, ci x13.2.1, ci x13.2.2]]⟩ trivial ?_ ?_
        exact .xS [.pick [0, 1, 2, 3] [3, 4, 6, 7, 8, 10, 76]] (hJJ14 (true) hF) (by kernel_rfl)
        all_goals kernel_rfl
       ·
        refine WA.putB [72, 71] he ?_ ?_
        refine WA.fin 4 [] [] (some ([0, 1, 2, 3], [3, 4, 6, 7, 8, 10, 76])) ⟨[(3, pT 0 0), (4, pT 1 0), (6, pT 2 0), (7, iI 0), (8, iI 0), (10, pT 3 0), (76, bB (a4 == 20))], [.box [.vw none tyIII a1], .box [ci a2, ci a3, ci a4, .bool a5], .box [ci 0, ci 0, ci 0, .bool false], .box [ci x13.1, ci x13.2.1, ci x13.2.2]]⟩ trivial ?_ ?_
        exact .xS [.pick [0, 1, 2, 3] [3, 4, 6, 7, 8, 10, 76]] (hJJ14 (a4 == 20) hF) (by kernel_rfl)
        all_goals kernel_rfl
       all_goals kernel_rfl
      all_goals kernel_rfl
     all_goals kernel_rfl
    ·
     refine .uB [0, 1, 2, 3] [4, 5, 6, 7, 8, 9, 10, 11, 12, 13, 14, 15, 16, 17, 18, 19] [] [] rfl trivial ?_ ?_
     rcases condE hF with ⟨he, hF⟩ | ⟨he, hF⟩
     ·
      refine WT.putB [36, 35] he ?_ ?_
      refine .vE [] (some ([0, 1, 2, 3], [3, 4, 6, 7, 8, 9, 52])) [] trivial ?_ ?_
      exact .xS [.pick [0, 1, 2, 3] [3, 4, 6, 7, 8, 9, 52]] (hJJ9 (true) hF) (by kernel_rfl)
      all_goals kernel_rfl
     ·
      refine WT.putB [36, 35] he ?_ ?_
      refine .uN [4, 5, 6, 7, 8, 9, 10] [11, 12, 13, 14, 15, 16, 17, 18, 19] [] [] rfl trivial ?_ ?_
      rcases condE hF with ⟨he, hF⟩ | ⟨he, hF⟩
      ·
       refine WT.putB [43, 42, 41] he ?_ ?_
       refine .vE [] (some ([0, 1, 2, 3], [3, 4, 6, 7, 8, 9, 52])) [] trivial ?_ ?_
       exact .xS [.pick [0, 1, 2, 3] [3, 4, 6, 7, 8, 9, 52]] (hJJ9 (true) hF) (by kernel_rfl)
       all_goals kernel_rfl
      ·
       refine WT.putB [43, 42, 41] he ?_ ?_
       obtain ⟨x10, h26, hF⟩ := bindE hF
       refine .vE [.el tyIII x10] (some ([0, 1, 2, 3], [3, 4, 6, 7, 8, 9, 52])) [at? a1 x8.2.1 = some x10] ⟨h26, trivial⟩ ?_ ?_
       exact .xS [.pick [0, 1, 2, 3] [3, 4, 6, 7, 8, 9, 52]] (hJJ9 (x10.1 != 2) hF) (by kernel_rfl)
       all_goals kernel_rfl
      all_goals kernel_rfl
     all_goals kernel_rfl
    all_goals kernel_rfl
   all_goals kernel_rfl
  all_goals kernel_rfl
 ·
  refine .uB [0, 1] [2, 3, 4, 5, 6, 7, 8, 9, 10] [] [] rfl trivial ?_ ?_
  obtain ⟨r3, h28, hF⟩ := bindE hF
  refine .uC false [] (S_spec_LinkOk k a1 a2 a3 a4 a5 r3 h28) rfl ?_ ?_
  refine .uN [3, 4] [5, 6, 7, 8, 9, 10] [] [] rfl trivial ?_ ?_
  rcases condE hF with ⟨he, hF⟩ | ⟨he, hF⟩
  ·
   refine WT.putB [17, 16] he ?_ ?_
   refine .vE [] (some ([0, 1, 2], [2, 3, 4, 6, 7, 8, 12])) [] trivial ?_ ?_
   exact .xS [.pick [0, 1, 2] [2, 3, 4, 6, 7, 8, 12]] (hJJ2 (true) hF) (by kernel_rfl)
   all_goals kernel_rfl
  ·
   refine WT.putB [17, 16] he ?_ ?_
   refine .uN [5, 6] [7, 8, 9, 10] [] [] rfl trivial ?_ ?_
   obtain ⟨r4, h27, hF⟩ := bindE hF
   refine .uC false [] (S_spec_l1Has k a1 a6 r4 h27) rfl ?_ ?_
   refine .vE [] (some ([0, 1, 2], [2, 3, 4, 6, 7, 8, 12])) [] trivial ?_ ?_
   exact .xS [.pick [0, 1, 2] [2, 3, 4, 6, 7, 8, 12]] (hJJ2 (!r4) hF) (by kernel_rfl)
   all_goals kernel_rfl
  all_goals kernel_rfl
 all_goals kernel_rfl
theorem S_spec_l19Do_10db (k : Nat) (a1 : (List (Int × (Int × Int)))) (a2 : (List Int)) (a3 : Int) (a4 : Int) (a5 : Int) (a6 : Bool) (a7 : Int) (a8 : Int) (a9 : Int) (a10 : Bool) (a11 : Int) (a12 : Int) (a13 : ByteArray) (a14 : (List Int)) (a15 : (List Int)) (r : (List (Int × (Int × Int))) × (List Int) × Int × Int × Int × Bool × Int × Int × Int × Bool × (List Int) × (List Int) × Bool) (hF : F_spec_l19Do_10db k a1 a2 a3 a4 a5 a6 a7 a8 a9 a10 a11 a12 a13 a14 a15 = some r) : Spec Tryz.prog 37 [aG [.vw none tyIII a1, .vw none tyI a2, ci a3, ci a4, ci a5, .bool a6, ci a7, ci a8, ci a9, .bool a10, .sl 0, .sl 1], aG [ci a11, ci a12, .str a13]] [.row tyI a14, .row tyI a15] (.tup [.agg [.vw none tyIII r.1, .vw none tyI r.2.1, ci r.2.2.1, ci r.2.2.2.1, ci r.2.2.2.2.1, .bool r.2.2.2.2.2.1, ci r.2.2.2.2.2.2.1, ci r.2.2.2.2.2.2.2.1, ci r.2.2.2.2.2.2.2.2.1, .bool r.2.2.2.2.2.2.2.2.2.1, .vw none tyI r.2.2.2.2.2.2.2.2.2.2.1, .vw none tyI r.2.2.2.2.2.2.2.2.2.2.2.1], .c (.bool r.2.2.2.2.2.2.2.2.2.2.2.2)]) [.dead, .dead] := by
 refine Spec.of 2 131 Tryz.func37 rfl rfl (Nat.le_of_ble_eq_true rfl) rfl fun w0 S0 Z0 M0 R0 hE => ?_
 unfold F_spec_l19Do_10db at hF
 refine .seq ?_
 refine .vW [] (some ([0, 1, 2, 3, 4], [2, 3, 4, 5])) [] trivial ?_ ?_
 refine .seq ?_
 refine .vW [] (some ([0, 1, 2, 3, 4], [2, 3, 4, 5])) [] trivial ?_ ?_
 refine .seq ?_
 refine .seq ?_
 refine .vW [] (some ([0, 1, 2, 3, 4], [2, 3, 4, 5, 16])) [] trivial ?_ ?_
 refine .block ?_
 refine .seq ?_
 refine .xW [] (some ([0, 1, 2, 3, 4], [2, 3, 4, 5, 16, 17])) ⟨[(2, pT 2 0), (3, pT 3 0), (4, pT 4 0), (5, bB false), (16, iI a11), (17, bB (a11 == 1))], [.row tyI a14, .row tyI a15, .box [.vw none tyIII a1, .vw none tyI a2, ci a3, ci a4, ci a5, .bool a6, ci a7, ci a8, ci a9, .bool a10, .sl 0, .sl 1], .box [ci a11, ci a12, .str a13], .box [.nilsl, .nilsl, ci 0, ci 0, ci 0, .bool false, ci 0, ci 0, ci 0, .bool false, .nilsl, .nilsl]]⟩ [] trivial ?_ ?_
 rcases condE hF with ⟨he, hF⟩ | ⟨he, hF⟩
 ·
  refine .xT he ?_ ?_
  refine .seq ?_
  refine .uB [0, 1, 2, 3, 4, 5] [6, 7, 8, 9, 10, 11, 12, 13, 14, 15] [] [] rfl trivial ?_ ?_
  obtain ⟨r3, h19, hF⟩ := bindE hF
  refine .uC false [] (S_spec_l18Send k a1 a3 a4 a5 a6 a12 r3 h19) rfl ?_ ?_
  refine .xE [] (some ([0, 1, 2, 3, 4], [2, 3, 4, 5, 6])) ⟨[(2, pT 2 0), (3, pT 3 0), (4, pT 4 0), (5, bB false), (6, iI r3.2.2)], [.row tyI a14, .row tyI a15, .box [.vw none tyIII r3.1, .vw none tyI a2, ci a3, ci a4, ci r3.2.1, .bool a6, ci a7, ci a8, ci a9, .bool a10, .sl 0, .sl 1], .box [ci a11, ci a12, .str a13], .box [.nilsl, .nilsl, ci 0, ci 0, ci 0, .bool false, ci 0, ci 0, ci 0, .bool false, .nilsl, .nilsl]]⟩ [] trivial ?_ ?_
  refine .seq ?_
  refine .uB [0, 1, 2, 3, 4] [5, 6, 7] [.el tyI 0] [] rfl trivial ?_ ?_
  obtain ⟨h18, hF⟩ := iteE hF
  refine .uO [.tmp 33, .tmp 36] false [.whole 0, .whole 5] (append_rows (d := tyI) (xs := a14) (ys := [a12]) rfl (by kernel_rfl) h18) rfl ?_ ?_
  refine .xE [] (some ([0, 1, 2, 3, 4, 6], [2, 3, 4, 5, 6])) ⟨[(2, pT 2 0), (3, pT 3 0), (4, pT 4 0), (5, bB false), (6, iI r3.2.2)], [.dead, .row tyI a15, .box [.vw none tyIII r3.1, .vw none tyI a2, ci a3, ci a4, ci r3.2.1, .bool a6, ci a7, ci a8, ci a9, .bool a10, .sl 5, .sl 1], .box [ci a11, ci a12, .str a13], .box [.nilsl, .nilsl, ci 0, ci 0, ci 0, .bool false, ci 0, ci 0, ci 0, .bool false, .nilsl, .nilsl], .row tyI (a14 ++ [a12])]⟩ [] trivial ?_ ?_
  refine .seq ?_
  refine .uB [0, 1] [2, 3, 4, 5, 6] [] [] rfl trivial ?_ ?_
  obtain ⟨r4, h17, hF⟩ := bindE hF
  refine .uS [.frz 1, .frz 5] ?_ ?_
  refine .uC false [] (S_spec_l19Hear k r3.1 a2 a3 a4 r3.2.1 a6 a7 a8 a9 a10 (a14 ++ [a12]) a15 r3.2.2 r4 h17) rfl ?_ ?_
  refine .vE [] (some ([0, 1, 2, 3, 4], [2, 3, 4, 5])) [] trivial ?_ ?_
  cases hF
  exact .xR hE [] [0, 1] (by kernel_rfl)
  all_goals kernel_rfl
 ·
  refine .xF he ?_ ?_
  refine .seq ?_
  refine .xW [] (some ([0, 1, 2, 3, 4], [2, 3, 4, 5, 16, 44])) ⟨[(2, pT 2 0), (3, pT 3 0), (4, pT 4 0), (5, bB false), (16, iI a11), (44, bB (a11 == 3))], [.row tyI a14, .row tyI a15, .box [.vw none tyIII a1, .vw none tyI a2, ci a3, ci a4, ci a5, .bool a6, ci a7, ci a8, ci a9, .bool a10, .sl 0, .sl 1], .box [ci a11, ci a12, .str a13], .box [.nilsl, .nilsl, ci 0, ci 0, ci 0, .bool false, ci 0, ci 0, ci 0, .bool false, .nilsl, .nilsl]]⟩ [] trivial ?_ ?_
  rcases condE hF with ⟨he, hF⟩ | ⟨he, hF⟩
  ·
   refine .xT he ?_ ?_
   refine .seq ?_
   refine .uB [0, 1, 2, 3] [4, 5, 6, 7, 8, 9, 10, 11, 12, 13] [] [] rfl trivial ?_ ?_
   obtain ⟨r6, h21, hF⟩ := bindE hF
   refine .uC false [] (S_spec_l18Close k a1 a3 a4 a5 a6 r6 h21) rfl ?_ ?_
   refine .xE [] (some ([0, 1, 2, 3, 4], [2, 3, 4, 5, 6])) ⟨[(2, pT 2 0), (3, pT 3 0), (4, pT 4 0), (5, bB false), (6, iI r6.2.2)], [.row tyI a14, .row tyI a15, .box [.vw none tyIII r6.1, .vw none tyI a2, ci a3, ci a4, ci a5, .bool r6.2.1, ci a7, ci a8, ci a9, .bool a10, .sl 0, .sl 1], .box [ci a11, ci a12, .str a13], .box [.nilsl, .nilsl, ci 0, ci 0, ci 0, .bool false, ci 0, ci 0, ci 0, .bool false, .nilsl, .nilsl]]⟩ [] trivial ?_ ?_
   refine .seq ?_
   refine .uB [0, 1] [2, 3, 4, 5, 6] [] [] rfl trivial ?_ ?_
   obtain ⟨r7, h20, hF⟩ := bindE hF
   refine .uS [.frz 0, .frz 1] ?_ ?_
   refine .uC false [] (S_spec_l19Hear k r6.1 a2 a3 a4 a5 r6.2.1 a7 a8 a9 a10 a14 a15 r6.2.2 r7 h20) rfl ?_ ?_
   refine .vE [] (some ([0, 1, 2, 3, 4], [2, 3, 4, 5])) [] trivial ?_ ?_
   cases hF
   exact .xR hE [] [0, 1] (by kernel_rfl)
   all_goals kernel_rfl
  ·
   refine .xF he ?_ ?_
   refine .seq ?_
   refine .xW [] (some ([0, 1, 2, 3, 4], [2, 3, 4, 5, 16, 62])) ⟨[(2, pT 2 0), (3, pT 3 0), (4, pT 4 0), (5, bB false), (16, iI a11), (62, bB (a11 == 2))], [.row tyI a14, .row tyI a15, .box [.vw none tyIII a1, .vw none tyI a2, ci a3, ci a4, ci a5, .bool a6, ci a7, ci a8, ci a9, .bool a10, .sl 0, .sl 1], .box [ci a11, ci a12, .str a13], .box [.nilsl, .nilsl, ci 0, ci 0, ci 0, .bool false, ci 0, ci 0, ci 0, .bool false, .nilsl, .nilsl]]⟩ [] trivial ?_ ?_
   rcases condE hF with ⟨he, hF⟩ | ⟨he, hF⟩
   ·
    refine .xT he ?_ ?_
    refine .seq ?_
    refine .uB [0, 1, 2, 3] [4, 5, 6, 7, 8, 9, 10, 11, 12, 13] [] [] rfl trivial ?_ ?_
    obtain ⟨r9, h22, hF⟩ := bindE hF
    refine .uC false [] (S_spec_l18Turn k a1 a3 a4 a5 a6 r9 h22) rfl ?_ ?_
    refine .vE [] (some ([0, 1, 2, 3, 4], [2, 3, 4, 5, 7])) [] trivial ?_ ?_
    refine .seq ?_
    refine .vW [] (some ([0, 1, 2, 3, 4], [2, 3, 4, 5])) [] trivial ?_ ?_
    cases hF
    exact .xR hE [.frz 0, .frz 1] [0, 1] (by kernel_rfl)
    all_goals kernel_rfl
   ·
    refine .xF he ?_ ?_
    refine .seq ?_
    refine .xW [] (some ([0, 1, 2, 3, 4], [2, 3, 4, 5, 77])) ⟨[(2, pT 2 0), (3, pT 3 0), (4, pT 4 0), (5, bB false), (77, bB (a11 == 5))], [.row tyI a14, .row tyI a15, .box [.vw none tyIII a1, .vw none tyI a2, ci a3, ci a4, ci a5, .bool a6, ci a7, ci a8, ci a9, .bool a10, .sl 0, .sl 1], .box [ci a11, ci a12, .str a13], .box [.nilsl, .nilsl, ci 0, ci 0, ci 0, .bool false, ci 0, ci 0, ci 0, .bool false, .nilsl, .nilsl]]⟩ [] trivial ?_ ?_
    rcases condE hF with ⟨he, hF⟩ | ⟨he, hF⟩
    ·
     refine .xT he ?_ ?_
     refine .seq ?_
     refine .uB [0, 1, 2, 3] [4, 5, 6, 7, 8, 9, 10, 11, 12, 13] [] [] rfl trivial ?_ ?_
     obtain ⟨r11, h23, hF⟩ := bindE hF
     refine .uC false [] (S_spec_l18Turn k a1 a7 a8 a9 a10 r11 h23) rfl ?_ ?_
     refine .vE [] (some ([0, 1, 2, 3, 4], [2, 3, 4, 5, 7])) [] trivial ?_ ?_
     refine .seq ?_
     refine .vW [] (some ([0, 1, 2, 3, 4], [2, 3, 4, 5])) [] trivial ?_ ?_
     cases hF
     exact .xR hE [.frz 0, .frz 1] [0, 1] (by kernel_rfl)
     all_goals kernel_rfl
    ·
     refine .xF he ?_ ?_
     refine .skip ?_
     refine .inBlock ?_
     refine .seq ?_
     refine .uB [0, 1, 2, 3, 4, 5] [6, 7, 8, 9, 10, 11, 12, 13, 14, 15, 16] [] [] rfl trivial ?_ ?_
     obtain ⟨r12, h26, hF⟩ := bindE hF
     refine .uC false [] (S_spec_RecipeRun k a1 a2 a13 r12 h26) rfl ?_ ?_
     refine .vE [] (some ([0, 1, 2, 4, 6, 5], [2, 4, 5, 8, 9, 11])) [] trivial ?_ ?_
     refine .seq ?_
     refine .seq ?_
     refine .xW [] (some ([0, 1, 2, 3, 4, 5], [2, 4, 5, 8, 9, 105])) ⟨[(2, pT 2 0), (4, pT 3 0), (5, bB false), (8, pT 4 0), (9, iI r12.1), (105, bB (r12.2.2.1 != 0))], [.row tyI a14, .row tyI a15, .box [.vw none tyIII a1, .vw none tyI a2, ci a3, ci a4, ci a5, .bool a6, ci a7, ci a8, ci a9, .bool a10, .sl 0, .sl 1], .box [.nilsl, .nilsl, ci 0, ci 0, ci 0, .bool false, ci 0, ci 0, ci 0, .bool false, .nilsl, .nilsl], .box [.sl 5], .row tyIII r12.2.2.2]⟩ [] trivial ?_ ?_
     rcases condE hF with ⟨he, hF⟩ | ⟨he, hF⟩
     ·
      refine .xT he ?_ ?_
      refine .seq ?_
      refine .vW [] (some ([0, 1, 2, 3, 4, 5], [2, 4, 5, 8, 9])) [] trivial ?_ ?_
      cases hF
      exact .xR hE [.frz 0, .frz 1] [0, 1] (by kernel_rfl)
      all_goals kernel_rfl
     ·
      refine .xF he ?_ ?_
      refine .skip ?_
      refine .seq ?_
      refine .uB [0, 1, 2, 3] [4, 5, 6, 7, 8, 9, 10, 11, 12] [] [] rfl trivial ?_ ?_
      obtain ⟨r14, h25, hF⟩ := bindE hF
      refine .uC true [] (S_spec_LinkTake k r12.2.2.2 a7 a8 a9 a10 r12.1 r14 h25) rfl ?_ ?_
      refine .vE [] (some ([0, 1, 2, 3, 4, 6, 5], [2, 4, 5, 8, 12, 13, 14])) [] trivial ?_ ?_
      refine .seq ?_
      refine .vW [] (some ([0, 1, 2, 3, 5, 6], [2, 4, 5, 12, 13, 14])) [] trivial ?_ ?_
      refine .seq ?_
      refine .vW [] (some ([0, 1, 2, 3, 5], [2, 4, 5, 13, 14])) [] trivial ?_ ?_
      refine .seq ?_
      refine .seq ?_
      refine .xW [] (some ([0, 1, 2, 3, 4], [2, 4, 5, 13, 14, 121])) ⟨[(2, pT 2 0), (4, pT 3 0), (5, bB false), (13, iI r14.2.2.1), (14, iI r14.2.2.2), (121, bB (decide (r14.2.2.1 ≥ 0)))], [.row tyI a14, .row tyI a15, .box [.sl 4, .vw none tyI a2, ci a3, ci a4, ci a5, .bool a6, ci a7, ci a8, ci r14.1, .bool r14.2.1, .sl 0, .sl 1], .box [.nilsl, .nilsl, ci 0, ci 0, ci 0, .bool false, ci 0, ci 0, ci 0, .bool false, .nilsl, .nilsl], .row tyIII r12.2.2.2]⟩ [] trivial ?_ ?_
      refine WT.join (f := fun v16 => F_spec_l19Do_10db_J15 k a2 a3 a4 a5 a6 a7 a8 r12 a14 r14 v16) (r := r) (S := fun v16 => ⟨[(2, pT 2 0), (4, pT 3 0), (5, bB false), (14, iI r14.2.2.2)], [.row tyI a14, .dead, .box [.sl 4, .vw none tyI a2, ci a3, ci a4, ci a5, .bool a6, ci a7, ci a8, ci r14.1, .bool r14.2.1, .sl 0, .sl 5], .box [.nilsl, .nilsl, ci 0, ci 0, ci 0, .bool false, ci 0, ci 0, ci 0, .bool false, .nilsl, .nilsl], .row tyIII r12.2.2.2, .row tyI v16]⟩) (fun v16 hF => ?_) (fun hJJ15 => ?_)
      ·
       unfold F_spec_l19Do_10db_J15 at hF
       refine .seq ?_
       refine .vW [] (some ([0, 1, 3, 4, 5], [4, 5])) [] trivial ?_ ?_
       cases hF
       exact .xR hE [.frz 3, .frz 0, .frz 4] [0, 1] (by kernel_rfl)
       all_goals kernel_rfl
      ·
       rcases condE hF with ⟨he, hF⟩ | ⟨he, hF⟩
       ·
        refine .xT he ?_ ?_
        refine .uB [0, 1, 2, 3] [4, 5, 6] [.el tyI 0] [] rfl trivial ?_ ?_
        obtain ⟨h24, hF⟩ := iteE hF
        refine .uO [.tmp 123, .tmp 125] false [.whole 1, .whole 5] (append_rows (d := tyI) (xs := a15) (ys := [r14.2.2.1]) rfl (by kernel_rfl) h24) rfl ?_ ?_
        refine .vE [] (some ([0, 1, 2, 3, 4, 6], [2, 4, 5, 14])) [] trivial ?_ ?_
        exact .xS [.pick [0, 1, 2, 3, 4, 5] [2, 4, 5, 14]] (hJJ15 (a15 ++ [r14.2.2.1]) hF) (by kernel_rfl)
        all_goals kernel_rfl
       ·
        refine .xF he ?_ ?_
        refine .skip ?_
        exact .xS [.mv 1, .pick [0, 1, 2, 3, 4, 5] [2, 4, 5, 14]] (hJJ15 (a15) hF) (by kernel_rfl)
        all_goals kernel_rfl
       all_goals kernel_rfl
      all_goals kernel_rfl
     all_goals kernel_rfl
    all_goals kernel_rfl
   all_goals kernel_rfl
  all_goals kernel_rfl
 all_goals kernel_rfl
theorem S_spec_StreamDo (k : Nat) (a1 : (List (Int × (Int × Int)))) (a2 : (List Int)) (a3 : Int) (a4 : Int) (a5 : Int) (a6 : Bool) (a7 : Int) (a8 : Int) (a9 : Int) (a10 : Bool) (a11 : (List Int)) (a12 : (List Int)) (a13 : Int) (a14 : Int) (a15 : ByteArray) (r : Int × Int × Int × Bool × Int × Int × Int × Bool × Bool × (List (Int × (Int × Int))) × (List Int) × (List Int) × (List Int)) (hF : F_spec_StreamDo k a1 a2 a3 a4 a5 a6 a7 a8 a9 a10 a11 a12 a13 a14 a15 = some r) : Spec Tryz.prog 9 [aG [.vw none tyIII a1, .vw none tyI a2, ci a3, ci a4, ci a5, .bool a6, ci a7, ci a8, ci a9, .bool a10, .vw none tyI a11, .vw none tyI a12], aG [ci a13, ci a14, .str a15]] [] (.tup [.agg [.sl 0, .sl 1, ci r.1, ci r.2.1, ci r.2.2.1, .bool r.2.2.2.1, ci r.2.2.2.2.1, ci r.2.2.2.2.2.1, ci r.2.2.2.2.2.2.1, .bool r.2.2.2.2.2.2.2.1, .sl 2, .sl 3], .c (.bool r.2.2.2.2.2.2.2.2.1)]) [.row tyIII r.2.2.2.2.2.2.2.2.2.1, .row tyI r.2.2.2.2.2.2.2.2.2.2.1, .row tyI r.2.2.2.2.2.2.2.2.2.2.2.1, .row tyI r.2.2.2.2.2.2.2.2.2.2.2.2] := by
 refine Spec.of 0 49 Tryz.func9 rfl rfl (Nat.le_of_ble_eq_true rfl) rfl fun w0 S0 Z0 M0 R0 hE => ?_
 unfold F_spec_StreamDo at hF
 refine .seq ?_
 refine .xW [] (some ([0, 1, 2], [2, 3, 4, 5])) ⟨[(2, pT 0 0), (3, pT 1 0), (4, pT 2 0), (5, bB false)], [.box [.vw none tyIII a1, .vw none tyI a2, ci a3, ci a4, ci a5, .bool a6, ci a7, ci a8, ci a9, .bool a10, .vw none tyI a11, .vw none tyI a12], .box [ci a13, ci a14, .str a15], .box [.nilsl, .nilsl, ci 0, ci 0, ci 0, .bool false, ci 0, ci 0, ci 0, .bool false, .nilsl, .nilsl]]⟩ [] trivial ?_ ?_
 refine .seq ?_
 refine .seq ?_
 refine .uB [0] [1, 2] [] [] rfl trivial ?_ ?_
 obtain ⟨r1, h25, hF⟩ := bindE hF
 refine .uC false [] (S_spec_StreamOk k a1 a2 a3 a4 a5 a6 a7 a8 a9 a10 a11 a12 r1 h25) rfl ?_ ?_
 refine .xE [] (some ([0, 1, 2], [2, 3, 4, 5, 10])) ⟨[(2, pT 0 0), (3, pT 1 0), (4, pT 2 0), (5, bB false), (10, bB (!r1))], [.box [.vw none tyIII a1, .vw none tyI a2, ci a3, ci a4, ci a5, .bool a6, ci a7, ci a8, ci a9, .bool a10, .vw none tyI a11, .vw none tyI a12], .box [ci a13, ci a14, .str a15], .box [.nilsl, .nilsl, ci 0, ci 0, ci 0, .bool false, ci 0, ci 0, ci 0, .bool false, .nilsl, .nilsl]]⟩ [] trivial ?_ ?_
 rcases condE hF with ⟨he, hF⟩ | ⟨he, hF⟩
 ·
  refine .xT he ?_ ?_
  refine .seq ?_
  refine .vW [] (some ([0, 1, 2], [2, 3, 4, 5])) [] trivial ?_ ?_
  cases hF
  exact .xR hE [.nrb 2 0 tyIII, .nrb 2 1 tyI, .nrb 2 10 tyI, .nrb 2 11 tyI] [3, 4, 5, 6] (by kernel_rfl)
  all_goals kernel_rfl
 ·
  refine .xF he ?_ ?_
  refine .skip ?_
  refine .seq ?_
  refine .seq ?_
  refine .uB [0] [1, 2] [] [] rfl trivial ?_ ?_
  obtain ⟨r3, h24, hF⟩ := bindE hF
  refine .uC false [] (S_spec_l19Action k a13 a14 a15 r3 h24) rfl ?_ ?_
  refine .xE [] (some ([0, 1, 2], [2, 3, 4, 5, 14])) ⟨[(2, pT 0 0), (3, pT 1 0), (4, pT 2 0), (5, bB false), (14, bB (!r3))], [.box [.vw none tyIII a1, .vw none tyI a2, ci a3, ci a4, ci a5, .bool a6, ci a7, ci a8, ci a9, .bool a10, .vw none tyI a11, .vw none tyI a12], .box [ci a13, ci a14, .str a15], .box [.nilsl, .nilsl, ci 0, ci 0, ci 0, .bool false, ci 0, ci 0, ci 0, .bool false, .nilsl, .nilsl]]⟩ [] trivial ?_ ?_
  rcases condE hF with ⟨he, hF⟩ | ⟨he, hF⟩
  ·
   refine .xT he ?_ ?_
   refine .seq ?_
   refine .uB [0] [1, 2, 3] [] [] rfl trivial ?_ ?_
   obtain ⟨r5, h16, hF⟩ := bindE hF
   refine .uC false [] (S_spec_l19Copy k a1 a2 a3 a4 a5 a6 a7 a8 a9 a10 a11 a12 r5 h16) rfl ?_ ?_
   refine .vE [] (some ([0, 1, 2, 3, 4, 5, 6], [2, 3, 4, 5])) [] trivial ?_ ?_
   cases hF
   exact .xR hE [] [3, 4, 5, 6] (by kernel_rfl)
   all_goals kernel_rfl
  ·
   refine .xF he ?_ ?_
   refine .skip ?_
   refine .seq ?_
   obtain ⟨r7, h9, hF⟩ := bindE hF
   obtain ⟨r8, h10, hF⟩ := bindE hF
   refine WA.xs [.cells 0 0 12, .cells 1 0 3] [] ?_ ?_
   refine WA.lem (pr' := [.cells 0 0 12, .cells 1 0 3]) (fuel' := 0) (listed' := #[true, true, true, true, true, true, true, true, true, true]) (st' := ⟨[(2, pT 0 0), (3, pT 1 0), (4, pT 2 0), (5, bB false), (6, pT 3 0), (7, bB r8.2.2.2.2.2.2.2.2.2.2.2.2)], [.box [.vw none tyIII a1, .vw none tyI a2, ci a3, ci a4, ci a5, .bool a6, ci a7, ci a8, ci a9, .bool a10, .vw none tyI a11, .vw none tyI a12], .box [ci a13, ci a14, .str a15], .box [.nilsl, .nilsl, ci 0, ci 0, ci 0, .bool false, ci 0, ci 0, ci 0, .bool false, .nilsl, .nilsl], .box [.vw none tyIII r8.1, .vw none tyI r8.2.1, ci r8.2.2.1, ci r8.2.2.2.1, ci r8.2.2.2.2.1, .bool r8.2.2.2.2.2.1, ci r8.2.2.2.2.2.2.1, ci r8.2.2.2.2.2.2.2.1, ci r8.2.2.2.2.2.2.2.2.1, .bool r8.2.2.2.2.2.2.2.2.2.1, .vw none tyI r8.2.2.2.2.2.2.2.2.2.2.1, .vw none tyI r8.2.2.2.2.2.2.2.2.2.2.2.1]]⟩) ?_ (fun A22 => ?_)
   ·
    refine WA.xD none ⟨[(2, pT 0 0), (3, pT 1 0), (4, pT 2 0), (5, bB false), (6, pT 3 0), (7, bB r8.2.2.2.2.2.2.2.2.2.2.2.2)], [.box [.vw none tyIII a1, .vw none tyI a2, ci a3, ci a4, ci a5, .bool a6, ci a7, ci a8, ci a9, .bool a10, .vw none tyI a11, .vw none tyI a12], .box [ci a13, ci a14, .str a15], .box [.nilsl, .nilsl, ci 0, ci 0, ci 0, .bool false, ci 0, ci 0, ci 0, .bool false, .nilsl, .nilsl], .box [.vw none tyIII r8.1, .vw none tyI r8.2.1, ci r8.2.2.1, ci r8.2.2.2.1, ci r8.2.2.2.2.1, .bool r8.2.2.2.2.2.1, ci r8.2.2.2.2.2.2.1, ci r8.2.2.2.2.2.2.2.1, ci r8.2.2.2.2.2.2.2.2.1, .bool r8.2.2.2.2.2.2.2.2.2.1, .vw none tyI r8.2.2.2.2.2.2.2.2.2.2.1, .vw none tyI r8.2.2.2.2.2.2.2.2.2.2.2.1]]⟩ ?_ ?_
    refine .seq ?_
    refine .seq ?_
    refine WT.join (f := fun v12 => F_spec_StreamDo_J11 k a1 a2 a3 a4 a5 a6 a7 a8 r8 a9 a10 a11 a12 v12) (r := r) (S := fun v12 => ⟨[(2, pT 0 0), (4, pT 1 0), (5, bB false), (6, pT 2 0), (44, bB v12)], [.box [.vw none tyIII a1, .vw none tyI a2, ci a3, ci a4, ci a5, .bool a6, ci a7, ci a8, ci a9, .bool a10, .vw none tyI a11, .vw none tyI a12], .box [.nilsl, .nilsl, ci 0, ci 0, ci 0, .bool false, ci 0, ci 0, ci 0, .bool false, .nilsl, .nilsl], .box [.vw none tyIII r8.1, .vw none tyI r8.2.1, ci r8.2.2.1, ci r8.2.2.2.1, ci r8.2.2.2.2.1, .bool r8.2.2.2.2.2.1, ci r8.2.2.2.2.2.2.1, ci r8.2.2.2.2.2.2.2.1, ci r8.2.2.2.2.2.2.2.2.1, .bool r8.2.2.2.2.2.2.2.2.2.1, .vw none tyI r8.2.2.2.2.2.2.2.2.2.2.1, .vw none tyI r8.2.2.2.2.2.2.2.2.2.2.2.1]]⟩) (fun v12 hF => ?_) (fun hJJ11 => ?_)
    ·
     unfold F_spec_StreamDo_J11 at hF
     rcases condE hF with ⟨he, hF⟩ | ⟨he, hF⟩
     ·
      refine .xT he ?_ ?_
      refine .seq ?_
      refine .uB [0] [1, 2, 3] [] [] rfl trivial ?_ ?_
      obtain ⟨r14, h17, hF⟩ := bindE hF
      refine .uC false [] (S_spec_l19Copy k a1 a2 a3 a4 a5 a6 a7 a8 a9 a10 a11 a12 r14 h17) rfl ?_ ?_
      refine .vE [] (some ([1, 2, 3, 4, 5, 6], [4, 5, 6])) [] trivial ?_ ?_
      cases hF
      exact .xR hE [] [2, 3, 4, 5] (by kernel_rfl)
      all_goals kernel_rfl
     ·
      refine .xF he ?_ ?_
      refine .skip ?_
      refine .seq ?_
      refine .uB [0] [1, 2, 3] [] [] rfl trivial ?_ ?_
      obtain ⟨r15, h18, hF⟩ := bindE hF
      refine .uC false [] (S_spec_l19Copy k r8.1 r8.2.1 r8.2.2.1 r8.2.2.2.1 r8.2.2.2.2.1 r8.2.2.2.2.2.1 r8.2.2.2.2.2.2.1 r8.2.2.2.2.2.2.2.1 r8.2.2.2.2.2.2.2.2.1 r8.2.2.2.2.2.2.2.2.2.1 r8.2.2.2.2.2.2.2.2.2.2.1 r8.2.2.2.2.2.2.2.2.2.2.2.1 r15 h18) rfl ?_ ?_
      refine .vE [] (some ([1, 3, 4, 5, 6], [4, 5])) [] trivial ?_ ?_
      cases hF
      exact .xR hE [] [1, 2, 3, 4] (by kernel_rfl)
      all_goals kernel_rfl
     all_goals kernel_rfl
    ·
     refine .uB [0, 1, 2] [3, 4, 5, 6, 7, 8, 9, 10, 11, 12, 13, 14, 15, 16, 17, 18, 19, 20] [] [] rfl trivial ?_ ?_
     rcases condE hF with ⟨he, hF⟩ | ⟨he, hF⟩
     ·
      refine WT.putB [26, 25] he ?_ ?_
      refine .vE [] (some ([0, 2, 3], [2, 4, 5, 6, 44])) [] trivial ?_ ?_
      exact .xS [.pick [0, 1, 2] [2, 4, 5, 6, 44]] (hJJ11 (true) hF) (by kernel_rfl)
      all_goals kernel_rfl
     ·
      refine WT.putB [26, 25] he ?_ ?_
      refine .uN [3, 4, 5, 6, 7, 8, 9] [10, 11, 12, 13, 14, 15, 16, 17, 18, 19, 20] [] [] rfl trivial ?_ ?_
      rcases condE hF with ⟨he, hF⟩ | ⟨he, hF⟩
      ·
       refine WT.putB [33, 32, 31] he ?_ ?_
       refine .vE [] (some ([0, 2, 3], [2, 4, 5, 6, 44])) [] trivial ?_ ?_
       exact .xS [.pick [0, 1, 2] [2, 4, 5, 6, 44]] (hJJ11 (true) hF) (by kernel_rfl)
       all_goals kernel_rfl
      ·
       refine WT.putB [33, 32, 31] he ?_ ?_
       refine .uN [10, 11, 12, 13, 14, 15] [16, 17, 18, 19, 20] [] [] rfl trivial ?_ ?_
       rcases condE hF with ⟨he, hF⟩ | ⟨he, hF⟩
       ·
        refine WT.putB [39, 38, 37] he ?_ ?_
        refine .vE [] (some ([0, 2, 3], [2, 4, 5, 6, 44])) [] trivial ?_ ?_
        exact .xS [.pick [0, 1, 2] [2, 4, 5, 6, 44]] (hJJ11 (true) hF) (by kernel_rfl)
        all_goals kernel_rfl
       ·
        refine WT.putB [39, 38, 37] he ?_ ?_
        refine .vE [] (some ([0, 2, 3], [2, 4, 5, 6, 44])) [] trivial ?_ ?_
        exact .xS [.pick [0, 1, 2] [2, 4, 5, 6, 44]] (hJJ11 (decide ((r8.2.2.2.2.2.2.2.2.2.2.2.1.length : Int) > 60)) hF) (by kernel_rfl)
        all_goals kernel_rfl
       all_goals kernel_rfl
      all_goals kernel_rfl
     all_goals kernel_rfl
    all_goals kernel_rfl
   refine WA.lem (pr' := [.cells 0 0 12, .cells 1 0 3]) (fuel' := 6) (listed' := #[true, true, true, false, false, false, false, true, false, false]) (st' := ⟨[(2, pT 0 0), (3, pT 1 0), (4, pT 2 0), (5, bB false), (6, pT 3 0), (19, aG [.sl 4, .sl 5, ci a3, ci a4, ci a5, .bool a6, ci a7, ci a8, ci a9, .bool a10, .sl 6, .sl 7]), (20, aG [ci a13, ci a14, .str a15])], [.box [.vw none tyIII a1, .vw none tyI a2, ci a3, ci a4, ci a5, .bool a6, ci a7, ci a8, ci a9, .bool a10, .vw none tyI a11, .vw none tyI a12], .box [ci a13, ci a14, .str a15], .box [.nilsl, .nilsl, ci 0, ci 0, ci 0, .bool false, ci 0, ci 0, ci 0, .bool false, .nilsl, .nilsl], .box [.nilsl, .nilsl, ci 0, ci 0, ci 0, .bool false, ci 0, ci 0, ci 0, .bool false, .nilsl, .nilsl], .row tyIII (([] : List (Int × (Int × Int))) ++ a1), .row tyI (([] : List Int) ++ a2), .row tyI (([] : List Int) ++ a11), .row tyI (([] : List Int) ++ a12)]⟩) ?_ (fun A23 => ?_)
   ·
    refine WA.x1 3 (WO.uS [.frz 4, .frz 5] (WO.uC false [.whole 6, .whole 7] [.cells 0 0 12, .cells 1 0 3] (S_spec_l19Do_10db k (([] : List (Int × (Int × Int))) ++ a1) (([] : List Int) ++ a2) a3 a4 a5 a6 a7 a8 a9 a10 a13 a14 a15 (([] : List Int) ++ a11) (([] : List Int) ++ a12) r8 h10) rfl ?_ ?_) ?_) ?_
    exact WA.to 5 [] [] [0, 1, 2, 3] [2, 3, 4, 5, 6, 7] A22 trivial (by kernel_rfl)
    all_goals kernel_rfl
   refine WA.lem (pr' := [.cells 0 0 12, .cells 1 0 3]) (fuel' := 7) (listed' := #[true, true, true, false, false, false, false, false, false, false]) (st' := ⟨[(2, pT 0 0), (3, pT 1 0), (4, pT 2 0), (5, bB false), (19, aG [.sl 3, .sl 4, ci a3, ci a4, ci a5, .bool a6, ci a7, ci a8, ci a9, .bool a10, .sl 5, .sl 6]), (20, aG [ci a13, ci a14, .str a15])], [.box [.vw none tyIII a1, .vw none tyI a2, ci a3, ci a4, ci a5, .bool a6, ci a7, ci a8, ci a9, .bool a10, .vw none tyI a11, .vw none tyI a12], .box [ci a13, ci a14, .str a15], .box [.nilsl, .nilsl, ci 0, ci 0, ci 0, .bool false, ci 0, ci 0, ci 0, .bool false, .nilsl, .nilsl], .row tyIII (([] : List (Int × (Int × Int))) ++ a1), .row tyI (([] : List Int) ++ a2), .row tyI (([] : List Int) ++ a11), .row tyI (([] : List Int) ++ a12)]⟩) ?_ (fun A20 => ?_)
   ·
    refine WA.xf [3, 7] (by simp) (allW2 ?_ ?_) ?_
    ·
     refine WO.uS [.frz 3, .frz 4] (WO.uC false [.whole 5, .whole 6] [.cells 0 0 12, .cells 1 0 3] (S_spec_l19Do_10db k (([] : List (Int × (Int × Int))) ++ a1) (([] : List Int) ++ a2) a3 a4 a5 a6 a7 a8 a9 a10 a13 a14 a15 (([] : List Int) ++ a11) (([] : List Int) ++ a12) r8 h10) rfl ?_ ?_) ?_
     exact WA.to 6 [] [] [0, 1, 2, 7] [2, 3, 4, 5, 6, 7] A22 trivial (by kernel_rfl)
     all_goals kernel_rfl
    ·
     refine WO.uM [] [] trivial ?_ ?_
     exact WA.to 0 [] [] [0, 1, 2, 7, 3, 4, 5, 6] [2, 3, 4, 5, 6, 19, 20] A23 trivial (by kernel_rfl)
     all_goals kernel_rfl
    kernel_rfl
   refine WA.lem (pr' := [.cells 0 0 12, .cells 1 0 3]) (fuel' := 7) (listed' := #[true, false, true, false, false, false, false, true, false, false]) (st' := ⟨[(2, pT 0 0), (3, pT 1 0), (4, pT 2 0), (5, bB false), (6, pT 3 0), (18, aG [.vw none tyIII a1, .vw none tyI a2, ci a3, ci a4, ci a5, .bool a6, ci a7, ci a8, ci a9, .bool a10, .vw none tyI a11, .vw none tyI a12]), (20, aG [ci a13, ci a14, .str a15])], [.box [.vw none tyIII a1, .vw none tyI a2, ci a3, ci a4, ci a5, .bool a6, ci a7, ci a8, ci a9, .bool a10, .vw none tyI a11, .vw none tyI a12], .box [ci a13, ci a14, .str a15], .box [.nilsl, .nilsl, ci 0, ci 0, ci 0, .bool false, ci 0, ci 0, ci 0, .bool false, .nilsl, .nilsl], .box [.nilsl, .nilsl, ci 0, ci 0, ci 0, .bool false, ci 0, ci 0, ci 0, .bool false, .nilsl, .nilsl]]⟩) ?_ (fun A21 => ?_)
   ·
    refine WA.x1 1 (WO.uC false [] [.cells 0 0 12, .cells 1 0 3] (S_spec_l19Copy k a1 a2 a3 a4 a5 a6 a7 a8 a9 a10 a11 a12 r7 h9) rfl ?_ ?_) ?_
    exact WA.to 0 [] [] [0, 1, 2, 3, 4, 5, 6, 7] [2, 3, 4, 5, 6, 19, 20] A23 trivial (by kernel_rfl)
    all_goals kernel_rfl
   refine WA.lem (pr' := [.cells 0 0 12, .cells 1 0 3]) (fuel' := 8) (listed' := #[true, false, true, false, false, false, false, false, false, false]) (st' := ⟨[(2, pT 0 0), (3, pT 1 0), (4, pT 2 0), (5, bB false), (18, aG [.vw none tyIII a1, .vw none tyI a2, ci a3, ci a4, ci a5, .bool a6, ci a7, ci a8, ci a9, .bool a10, .vw none tyI a11, .vw none tyI a12]), (20, aG [ci a13, ci a14, .str a15])], [.box [.vw none tyIII a1, .vw none tyI a2, ci a3, ci a4, ci a5, .bool a6, ci a7, ci a8, ci a9, .bool a10, .vw none tyI a11, .vw none tyI a12], .box [ci a13, ci a14, .str a15], .box [.nilsl, .nilsl, ci 0, ci 0, ci 0, .bool false, ci 0, ci 0, ci 0, .bool false, .nilsl, .nilsl]]⟩) ?_ (fun A19 => ?_)
   ·
    refine WA.xf [1, 7] (by simp) (allW2 ?_ ?_) ?_
    ·
     refine WO.uC false [] [.cells 0 0 12, .cells 1 0 3] (S_spec_l19Copy k a1 a2 a3 a4 a5 a6 a7 a8 a9 a10 a11 a12 r7 h9) rfl ?_ ?_
     exact WA.to 0 [] [] [0, 1, 2, 3, 4, 5, 6] [2, 3, 4, 5, 19, 20] A20 trivial (by kernel_rfl)
     all_goals kernel_rfl
    ·
     refine WO.uM [] [] trivial ?_ ?_
     exact WA.to 0 [] [] [0, 1, 2, 3] [2, 3, 4, 5, 6, 18, 20] A21 trivial (by kernel_rfl)
     all_goals kernel_rfl
    kernel_rfl
   exact WA.to 2 [] [] [0, 1, 2] [2, 3, 4, 5, 18, 20] A19 trivial (by kernel_rfl)
   all_goals kernel_rfl
  all_goals kernel_rfl
 all_goals kernel_rfl
theorem S_spec_StreamRun (k : Nat) (a1 : (List (Int × (Int × Int)))) (a2 : (List Int)) (a3 : Int) (a4 : Int) (a5 : Int) (a6 : Bool) (a7 : Int) (a8 : Int) (a9 : Int) (a10 : Bool) (a11 : (List Int)) (a12 : (List Int)) (a13 : (List (Int × (Int × ByteArray)))) (r : Int × Int × Int × Bool × Int × Int × Int × Bool × Int × (List (Int × (Int × Int))) × (List Int) × (List Int) × (List Int)) (hF : F_spec_StreamRun k a1 a2 a3 a4 a5 a6 a7 a8 a9 a10 a11 a12 a13 = some r) : Spec Tryz.prog 24 [aG [.vw none tyIII a1, .vw none tyI a2, ci a3, ci a4, ci a5, .bool a6, ci a7, ci a8, ci a9, .bool a10, .vw none tyI a11, .vw none tyI a12], vV none tyIIS a13] [] (.tup [.agg [.sl 0, .sl 1, ci r.1, ci r.2.1, ci r.2.2.1, .bool r.2.2.2.1, ci r.2.2.2.2.1, ci r.2.2.2.2.2.1, ci r.2.2.2.2.2.2.1, .bool r.2.2.2.2.2.2.2.1, .sl 2, .sl 3], .c (ci r.2.2.2.2.2.2.2.2.1)]) [.row tyIII r.2.2.2.2.2.2.2.2.2.1, .row tyI r.2.2.2.2.2.2.2.2.2.2.1, .row tyI r.2.2.2.2.2.2.2.2.2.2.2.1, .row tyI r.2.2.2.2.2.2.2.2.2.2.2.2] := by
 refine Spec.of 0 43 Tryz.func24 rfl rfl (Nat.le_of_ble_eq_true rfl) rfl fun w0 S0 Z0 M0 R0 hE => ?_
 unfold F_spec_StreamRun at hF
 refine .seq ?_
 refine .xW [] (some ([0, 1], [1, 2, 4, 5])) ⟨[(1, vV none tyIIS a13), (2, pT 0 0), (4, pT 1 0), (5, iI 0)], [.box [.vw none tyIII a1, .vw none tyI a2, ci a3, ci a4, ci a5, .bool a6, ci a7, ci a8, ci a9, .bool a10, .vw none tyI a11, .vw none tyI a12], .box [.nilsl, .nilsl, ci 0, ci 0, ci 0, .bool false, ci 0, ci 0, ci 0, .bool false, .nilsl, .nilsl]]⟩ [] trivial ?_ ?_
 refine .seq ?_
 refine .uB [0] [1, 2, 3] [] [] rfl trivial ?_ ?_
 obtain ⟨r1, h36, hF⟩ := bindE hF
 refine .uC false [] (S_spec_l19Copy k a1 a2 a3 a4 a5 a6 a7 a8 a9 a10 a11 a12 r1 h36) rfl ?_ ?_
 refine .vE [] (some ([0, 1, 6, 2, 3, 4, 5], [1, 2, 4, 5, 6])) [] trivial ?_ ?_
 refine .seq ?_
 refine .seq ?_
 refine WT.join (f := fun v4 => F_spec_StreamRun_J2 k a1 a2 a3 a4 a5 a6 a7 a8 a9 a10 a11 a12 a13 v4) (r := r) (S := fun v4 => ⟨[(1, vV none tyIIS a13), (4, pT 0 0), (5, iI 0), (6, pT 1 0), (20, bB v4)], [.box [.nilsl, .nilsl, ci 0, ci 0, ci 0, .bool false, ci 0, ci 0, ci 0, .bool false, .nilsl, .nilsl], .box [.sl 2, .sl 3, ci a3, ci a4, ci a5, .bool a6, ci a7, ci a8, ci a9, .bool a10, .sl 4, .sl 5], .row tyIII (([] : List (Int × (Int × Int))) ++ a1), .row tyI (([] : List Int) ++ a2), .row tyI (([] : List Int) ++ a11), .row tyI (([] : List Int) ++ a12)]⟩) (fun v4 hF => ?_) (fun hJJ2 => ?_)
 ·
  unfold F_spec_StreamRun_J2 at hF
  rcases condE hF with ⟨he, hF⟩ | ⟨he, hF⟩
  ·
   refine .xT he ?_ ?_
   refine .seq ?_
   refine .vW [] (some ([0, 1, 2, 3, 4, 5], [1, 4, 5, 6])) [] trivial ?_ ?_
   cases hF
   exact .xR hE [] [2, 3, 4, 5] (by kernel_rfl)
   all_goals kernel_rfl
  ·
   refine .xF he ?_ ?_
   refine .skip ?_
   refine .seq ?_
   refine .vW [] (some ([0, 1, 2, 3, 4, 5], [1, 4, 5, 6, 7])) [] trivial ?_ ?_
   refine .seq ?_
   refine .seq ?_
   refine .vW [] none [] trivial ?_ ?_
   refine WT.join (f := fun v28 => F_spec_StreamRun_J6 k v28) (r := r) (S := fun v28 => ⟨[(4, pT 0 0), (5, iI 0), (6, pT 1 0), (7, iI v28.1)], [.box [.nilsl, .nilsl, ci 0, ci 0, ci 0, .bool false, ci 0, ci 0, ci 0, .bool false, .nilsl, .nilsl], .box [.sl 2, .sl 3, ci v28.2.1, ci v28.2.2.1, ci v28.2.2.2.1, .bool v28.2.2.2.2.1, ci v28.2.2.2.2.2.1, ci v28.2.2.2.2.2.2.1, ci v28.2.2.2.2.2.2.2.1, .bool v28.2.2.2.2.2.2.2.2.1, .sl 4, .sl 5], .row tyIII v28.2.2.2.2.2.2.2.2.2.1, .row tyI v28.2.2.2.2.2.2.2.2.2.2.1, .row tyI v28.2.2.2.2.2.2.2.2.2.2.2.1, .row tyI v28.2.2.2.2.2.2.2.2.2.2.2.2]⟩) (fun v28 hF => ?_) (fun hJJ6 => ?_)
   ·
    unfold F_spec_StreamRun_J6 at hF
    refine .seq ?_
    refine .vW [] (some ([0, 2, 3, 4, 5], [4, 5])) [] trivial ?_ ?_
    cases hF
    exact .xR hE [] [1, 2, 3, 4] (by kernel_rfl)
    all_goals kernel_rfl
   ·
    refine .block ?_
    refine WT.xL (fun s18 => ⟨[(1, vV none tyIIS a13), (4, pT 0 0), (5, iI 0), (6, pT 1 0), (7, iI s18.1), (8, iI s18.2.1)], [.box [.nilsl, .nilsl, ci 0, ci 0, ci 0, .bool false, ci 0, ci 0, ci 0, .bool false, .nilsl, .nilsl], .box [.sl 2, .sl 3, ci s18.2.2.1, ci s18.2.2.2.1, ci s18.2.2.2.2.1, .bool s18.2.2.2.2.2.1, ci s18.2.2.2.2.2.2.1, ci s18.2.2.2.2.2.2.2.1, ci s18.2.2.2.2.2.2.2.2.1, .bool s18.2.2.2.2.2.2.2.2.2.1, .sl 4, .sl 5], .row tyIII s18.2.2.2.2.2.2.2.2.2.2.1, .row tyI s18.2.2.2.2.2.2.2.2.2.2.2.1, .row tyI s18.2.2.2.2.2.2.2.2.2.2.2.2.1, .row tyI s18.2.2.2.2.2.2.2.2.2.2.2.2.2]⟩) (l := fun n x => F_spec_StreamRun_L7 k a13 (F_spec_StreamRun_J6 k) n x) (r := r) [.pick [0, 1, 2, 3, 4, 5] [1, 4, 5, 6, 7, 8]] (0, 0, a3, a4, a5, a6, a7, a8, a9, a10, ([] : List (Int × (Int × Int))) ++ a1, ([] : List Int) ++ a2, ([] : List Int) ++ a11, ([] : List Int) ++ a12) k hF (fun _ => rfl) (fun nL7 s18 ih hF => ?_) ?_
    dsimp only [F_spec_StreamRun_L7] at hF
    refine .seq ?_
    refine .seq ?_
    refine .xW [] (some ([0, 1, 2, 3, 4, 5], [1, 4, 5, 6, 7, 8, 25])) ⟨[(1, vV none tyIIS a13), (4, pT 0 0), (5, iI 0), (6, pT 1 0), (7, iI s18.1), (8, iI s18.2.1), (25, bB (decide (s18.2.1 < (a13.length : Int))))], [.box [.nilsl, .nilsl, ci 0, ci 0, ci 0, .bool false, ci 0, ci 0, ci 0, .bool false, .nilsl, .nilsl], .box [.sl 2, .sl 3, ci s18.2.2.1, ci s18.2.2.2.1, ci s18.2.2.2.2.1, .bool s18.2.2.2.2.2.1, ci s18.2.2.2.2.2.2.1, ci s18.2.2.2.2.2.2.2.1, ci s18.2.2.2.2.2.2.2.2.1, .bool s18.2.2.2.2.2.2.2.2.2.1, .sl 4, .sl 5], .row tyIII s18.2.2.2.2.2.2.2.2.2.2.1, .row tyI s18.2.2.2.2.2.2.2.2.2.2.2.1, .row tyI s18.2.2.2.2.2.2.2.2.2.2.2.2.1, .row tyI s18.2.2.2.2.2.2.2.2.2.2.2.2.2]⟩ [] trivial ?_ ?_
    rcases condE hF with ⟨he, hF⟩ | ⟨he, hF⟩
    ·
     refine .xT he ?_ ?_
     refine .skip ?_
     refine .seq ?_
     refine WT.join (f := fun v27 => F_spec_StreamRun_J20 k s18 (F_spec_StreamRun_L7 k a13 (F_spec_StreamRun_J6 k) nL7) v27) (r := r) (S := fun v27 => ⟨[(1, vV none tyIIS a13), (4, pT 0 0), (5, iI 0), (6, pT 1 0), (7, iI v27.1), (8, iI s18.2.1)], [.box [.nilsl, .nilsl, ci 0, ci 0, ci 0, .bool false, ci 0, ci 0, ci 0, .bool false, .nilsl, .nilsl], .box [.sl 2, .sl 3, ci v27.2.1, ci v27.2.2.1, ci v27.2.2.2.1, .bool v27.2.2.2.2.1, ci v27.2.2.2.2.2.1, ci v27.2.2.2.2.2.2.1, ci v27.2.2.2.2.2.2.2.1, .bool v27.2.2.2.2.2.2.2.2.1, .sl 4, .sl 5], .row tyIII v27.2.2.2.2.2.2.2.2.2.1, .row tyI v27.2.2.2.2.2.2.2.2.2.2.1, .row tyI v27.2.2.2.2.2.2.2.2.2.2.2.1, .row tyI v27.2.2.2.2.2.2.2.2.2.2.2.2]⟩) (fun v27 hF => ?_) (fun hJJ20 => ?_)
     ·
      unfold F_spec_StreamRun_J20 at hF
      refine .vW [] (some ([0, 1, 2, 3, 4, 5], [1, 4, 5, 6, 7, 8])) [] trivial ?_ ?_
      exact .xS [.pick [0, 1, 2, 3, 4, 5] [1, 4, 5, 6, 7, 8]] (ih (v27.1, w64 (s18.2.1 + 1), v27.2.1, v27.2.2.1, v27.2.2.2.1, v27.2.2.2.2.1, v27.2.2.2.2.2.1, v27.2.2.2.2.2.2.1, v27.2.2.2.2.2.2.2.1, v27.2.2.2.2.2.2.2.2.1, v27.2.2.2.2.2.2.2.2.2.1, v27.2.2.2.2.2.2.2.2.2.2.1, v27.2.2.2.2.2.2.2.2.2.2.2.1, v27.2.2.2.2.2.2.2.2.2.2.2.2) hF) (by kernel_rfl)
      all_goals kernel_rfl
     ·
      refine .block ?_
      refine .seq ?_
      obtain ⟨x22, h24, hF⟩ := bindE hF
      obtain ⟨r23, h25, hF⟩ := bindE hF
      refine WA.xs [.cells 1 0 12, .dep none] [] ?_ ?_
      refine WA.lem (pr' := [.cells 1 0 12]) (fuel' := 0) (listed' := #[true, true, true, true, true, true, true, true, true, true, true, true]) (st' := ⟨[(1, vV none tyIIS a13), (4, pT 0 0), (5, iI 0), (6, pT 1 0), (7, iI s18.1), (8, iI s18.2.1), (9, pT 6 0), (10, bB r23.2.2.2.2.2.2.2.2.1)], [.box [.nilsl, .nilsl, ci 0, ci 0, ci 0, .bool false, ci 0, ci 0, ci 0, .bool false, .nilsl, .nilsl], .box [.sl 2, .sl 3, ci s18.2.2.1, ci s18.2.2.2.1, ci s18.2.2.2.2.1, .bool s18.2.2.2.2.2.1, ci s18.2.2.2.2.2.2.1, ci s18.2.2.2.2.2.2.2.1, ci s18.2.2.2.2.2.2.2.2.1, .bool s18.2.2.2.2.2.2.2.2.2.1, .sl 4, .sl 5], .row tyIII s18.2.2.2.2.2.2.2.2.2.2.1, .row tyI s18.2.2.2.2.2.2.2.2.2.2.2.1, .row tyI s18.2.2.2.2.2.2.2.2.2.2.2.2.1, .row tyI s18.2.2.2.2.2.2.2.2.2.2.2.2.2, .box [.sl 7, .sl 8, ci r23.1, ci r23.2.1, ci r23.2.2.1, .bool r23.2.2.2.1, ci r23.2.2.2.2.1, ci r23.2.2.2.2.2.1, ci r23.2.2.2.2.2.2.1, .bool r23.2.2.2.2.2.2.2.1, .sl 9, .sl 10], .row tyIII r23.2.2.2.2.2.2.2.2.2.1, .row tyI r23.2.2.2.2.2.2.2.2.2.2.1, .row tyI r23.2.2.2.2.2.2.2.2.2.2.2.1, .row tyI r23.2.2.2.2.2.2.2.2.2.2.2.2]⟩) ?_ (fun A33 => ?_)
      ·
       refine WA.xD (some ([0, 1, 6, 2, 3, 4, 5, 7, 8, 9, 10], [1, 4, 5, 6, 7, 8, 9, 10])) ⟨[(1, vV none tyIIS a13), (4, pT 0 0), (5, iI 0), (6, pT 1 0), (7, iI s18.1), (8, iI s18.2.1), (9, pT 2 0), (10, bB r23.2.2.2.2.2.2.2.2.1)], [.box [.nilsl, .nilsl, ci 0, ci 0, ci 0, .bool false, ci 0, ci 0, ci 0, .bool false, .nilsl, .nilsl], .box [.sl 3, .sl 4, ci s18.2.2.1, ci s18.2.2.2.1, ci s18.2.2.2.2.1, .bool s18.2.2.2.2.2.1, ci s18.2.2.2.2.2.2.1, ci s18.2.2.2.2.2.2.2.1, ci s18.2.2.2.2.2.2.2.2.1, .bool s18.2.2.2.2.2.2.2.2.2.1, .sl 5, .sl 6], .box [.sl 7, .sl 8, ci r23.1, ci r23.2.1, ci r23.2.2.1, .bool r23.2.2.2.1, ci r23.2.2.2.2.1, ci r23.2.2.2.2.2.1, ci r23.2.2.2.2.2.2.1, .bool r23.2.2.2.2.2.2.2.1, .sl 9, .sl 10], .row tyIII s18.2.2.2.2.2.2.2.2.2.2.1, .row tyI s18.2.2.2.2.2.2.2.2.2.2.2.1, .row tyI s18.2.2.2.2.2.2.2.2.2.2.2.2.1, .row tyI s18.2.2.2.2.2.2.2.2.2.2.2.2.2, .row tyIII r23.2.2.2.2.2.2.2.2.2.1, .row tyI r23.2.2.2.2.2.2.2.2.2.2.1, .row tyI r23.2.2.2.2.2.2.2.2.2.2.2.1, .row tyI r23.2.2.2.2.2.2.2.2.2.2.2.2]⟩ ?_ ?_
       refine .seq ?_
       refine .xW [] (some ([0, 1, 2, 3, 4, 5, 6, 7, 8, 9, 10], [1, 4, 5, 6, 7, 8, 9, 37])) ⟨[(1, vV none tyIIS a13), (4, pT 0 0), (5, iI 0), (6, pT 1 0), (7, iI s18.1), (8, iI s18.2.1), (9, pT 2 0), (37, bB r23.2.2.2.2.2.2.2.2.1)], [.box [.nilsl, .nilsl, ci 0, ci 0, ci 0, .bool false, ci 0, ci 0, ci 0, .bool false, .nilsl, .nilsl], .box [.sl 3, .sl 4, ci s18.2.2.1, ci s18.2.2.2.1, ci s18.2.2.2.2.1, .bool s18.2.2.2.2.2.1, ci s18.2.2.2.2.2.2.1, ci s18.2.2.2.2.2.2.2.1, ci s18.2.2.2.2.2.2.2.2.1, .bool s18.2.2.2.2.2.2.2.2.2.1, .sl 5, .sl 6], .box [.sl 7, .sl 8, ci r23.1, ci r23.2.1, ci r23.2.2.1, .bool r23.2.2.2.1, ci r23.2.2.2.2.1, ci r23.2.2.2.2.2.1, ci r23.2.2.2.2.2.2.1, .bool r23.2.2.2.2.2.2.2.1, .sl 9, .sl 10], .row tyIII s18.2.2.2.2.2.2.2.2.2.2.1, .row tyI s18.2.2.2.2.2.2.2.2.2.2.2.1, .row tyI s18.2.2.2.2.2.2.2.2.2.2.2.2.1, .row tyI s18.2.2.2.2.2.2.2.2.2.2.2.2.2, .row tyIII r23.2.2.2.2.2.2.2.2.2.1, .row tyI r23.2.2.2.2.2.2.2.2.2.2.1, .row tyI r23.2.2.2.2.2.2.2.2.2.2.2.1, .row tyI r23.2.2.2.2.2.2.2.2.2.2.2.2]⟩ [] trivial ?_ ?_
       rcases condE hF with ⟨he, hF⟩ | ⟨he, hF⟩
       ·
        refine .xT he ?_ ?_
        refine .seq ?_
        refine .vW [] (some ([0, 1, 7, 8, 9, 10], [1, 4, 5, 6, 7, 8])) [] trivial ?_ ?_
        refine .vW [] (some ([0, 1, 2, 3, 4, 5], [1, 4, 5, 6, 7, 8])) [] trivial ?_ ?_
        refine .inBlock ?_
        exact .xS [.pick [0, 1, 2, 3, 4, 5] [1, 4, 5, 6, 7, 8]] (hJJ20 (w64 (s18.1 + 1), r23.1, r23.2.1, r23.2.2.1, r23.2.2.2.1, r23.2.2.2.2.1, r23.2.2.2.2.2.1, r23.2.2.2.2.2.2.1, r23.2.2.2.2.2.2.2.1, r23.2.2.2.2.2.2.2.2.2.1, r23.2.2.2.2.2.2.2.2.2.2.1, r23.2.2.2.2.2.2.2.2.2.2.2.1, r23.2.2.2.2.2.2.2.2.2.2.2.2) hF) (by kernel_rfl)
        all_goals kernel_rfl
       ·
        refine .xF he ?_ ?_
        refine .skip ?_
        refine .inBlock ?_
        exact .xS [.pick [0, 1, 3, 4, 5, 6] [1, 4, 5, 6, 7, 8]] (hJJ20 (s18.1, s18.2.2.1, s18.2.2.2.1, s18.2.2.2.2.1, s18.2.2.2.2.2.1, s18.2.2.2.2.2.2.1, s18.2.2.2.2.2.2.2.1, s18.2.2.2.2.2.2.2.2.1, s18.2.2.2.2.2.2.2.2.2.1, s18.2.2.2.2.2.2.2.2.2.2.1, s18.2.2.2.2.2.2.2.2.2.2.2.1, s18.2.2.2.2.2.2.2.2.2.2.2.2.1, s18.2.2.2.2.2.2.2.2.2.2.2.2.2) hF) (by kernel_rfl)
        all_goals kernel_rfl
       all_goals kernel_rfl
      refine WA.lem (pr' := [.cells 1 0 12, .dep none]) (fuel' := 6) (listed' := #[true, true, true, true, true, false, false, false, false, true, false, false]) (st' := ⟨[(1, vV none tyIIS a13), (4, pT 0 0), (5, iI 0), (6, pT 1 0), (7, iI s18.1), (8, iI s18.2.1), (9, pT 6 0), (29, aG [.sl 2, .sl 3, ci s18.2.2.1, ci s18.2.2.2.1, ci s18.2.2.2.2.1, .bool s18.2.2.2.2.2.1, ci s18.2.2.2.2.2.2.1, ci s18.2.2.2.2.2.2.2.1, ci s18.2.2.2.2.2.2.2.2.1, .bool s18.2.2.2.2.2.2.2.2.2.1, .sl 4, .sl 5]), (33, aG [ci x22.1, ci x22.2.1, .str x22.2.2])], [.box [.nilsl, .nilsl, ci 0, ci 0, ci 0, .bool false, ci 0, ci 0, ci 0, .bool false, .nilsl, .nilsl], .box [.sl 2, .sl 3, ci s18.2.2.1, ci s18.2.2.2.1, ci s18.2.2.2.2.1, .bool s18.2.2.2.2.2.1, ci s18.2.2.2.2.2.2.1, ci s18.2.2.2.2.2.2.2.1, ci s18.2.2.2.2.2.2.2.2.1, .bool s18.2.2.2.2.2.2.2.2.2.1, .sl 4, .sl 5], .row tyIII s18.2.2.2.2.2.2.2.2.2.2.1, .row tyI s18.2.2.2.2.2.2.2.2.2.2.2.1, .row tyI s18.2.2.2.2.2.2.2.2.2.2.2.2.1, .row tyI s18.2.2.2.2.2.2.2.2.2.2.2.2.2, .box [.nilsl, .nilsl, ci 0, ci 0, ci 0, .bool false, ci 0, ci 0, ci 0, .bool false, .nilsl, .nilsl]]⟩) ?_ (fun A34 => ?_)
      ·
       refine WA.x1 5 (WO.uC true [] [.cells 1 0 12] (S_spec_StreamDo k s18.2.2.2.2.2.2.2.2.2.2.1 s18.2.2.2.2.2.2.2.2.2.2.2.1 s18.2.2.1 s18.2.2.2.1 s18.2.2.2.2.1 s18.2.2.2.2.2.1 s18.2.2.2.2.2.2.1 s18.2.2.2.2.2.2.2.1 s18.2.2.2.2.2.2.2.2.1 s18.2.2.2.2.2.2.2.2.2.1 s18.2.2.2.2.2.2.2.2.2.2.2.2.1 s18.2.2.2.2.2.2.2.2.2.2.2.2.2 x22.1 x22.2.1 x22.2.2 r23 h25) rfl ?_ ?_) ?_
       exact WA.to 5 [] [] [0, 1, 2, 3, 4, 5, 6, 7, 8, 9, 10] [1, 4, 5, 6, 7, 8, 9, 10] A33 trivial (by kernel_rfl)
       all_goals kernel_rfl
      refine WA.lem (pr' := [.cells 1 0 12, .dep none]) (fuel' := 7) (listed' := #[true, true, true, true, true, false, false, false, false, false, false, false]) (st' := ⟨[(1, vV none tyIIS a13), (4, pT 0 0), (5, iI 0), (6, pT 1 0), (7, iI s18.1), (8, iI s18.2.1), (29, aG [.sl 2, .sl 3, ci s18.2.2.1, ci s18.2.2.2.1, ci s18.2.2.2.2.1, .bool s18.2.2.2.2.2.1, ci s18.2.2.2.2.2.2.1, ci s18.2.2.2.2.2.2.2.1, ci s18.2.2.2.2.2.2.2.2.1, .bool s18.2.2.2.2.2.2.2.2.2.1, .sl 4, .sl 5]), (33, aG [ci x22.1, ci x22.2.1, .str x22.2.2])], [.box [.nilsl, .nilsl, ci 0, ci 0, ci 0, .bool false, ci 0, ci 0, ci 0, .bool false, .nilsl, .nilsl], .box [.sl 2, .sl 3, ci s18.2.2.1, ci s18.2.2.2.1, ci s18.2.2.2.2.1, .bool s18.2.2.2.2.2.1, ci s18.2.2.2.2.2.2.1, ci s18.2.2.2.2.2.2.2.1, ci s18.2.2.2.2.2.2.2.2.1, .bool s18.2.2.2.2.2.2.2.2.2.1, .sl 4, .sl 5], .row tyIII s18.2.2.2.2.2.2.2.2.2.2.1, .row tyI s18.2.2.2.2.2.2.2.2.2.2.2.1, .row tyI s18.2.2.2.2.2.2.2.2.2.2.2.2.1, .row tyI s18.2.2.2.2.2.2.2.2.2.2.2.2.2]⟩) ?_ (fun A32 => ?_)
      ·
       refine WA.xf [5, 9] (by simp) (allW2 ?_ ?_) ?_
       ·
        refine WO.uC true [] [.cells 1 0 12] (S_spec_StreamDo k s18.2.2.2.2.2.2.2.2.2.2.1 s18.2.2.2.2.2.2.2.2.2.2.2.1 s18.2.2.1 s18.2.2.2.1 s18.2.2.2.2.1 s18.2.2.2.2.2.1 s18.2.2.2.2.2.2.1 s18.2.2.2.2.2.2.2.1 s18.2.2.2.2.2.2.2.2.1 s18.2.2.2.2.2.2.2.2.2.1 s18.2.2.2.2.2.2.2.2.2.2.2.2.1 s18.2.2.2.2.2.2.2.2.2.2.2.2.2 x22.1 x22.2.1 x22.2.2 r23 h25) rfl ?_ ?_
        exact WA.to 6 [] [] [0, 1, 2, 3, 4, 5, 10, 6, 7, 8, 9] [1, 4, 5, 6, 7, 8, 9, 10] A33 trivial (by kernel_rfl)
        all_goals kernel_rfl
       ·
        refine WO.uM [] [] trivial ?_ ?_
        exact WA.to 0 [] [] [0, 1, 2, 3, 4, 5, 6] [1, 4, 5, 6, 7, 8, 9, 29, 33] A34 trivial (by kernel_rfl)
        all_goals kernel_rfl
       kernel_rfl
      exact WA.to 5 [.el tyIIS x22] [at? a13 s18.2.1 = some x22] [0, 1, 2, 3, 4, 5] [1, 4, 5, 6, 7, 8, 29, 33] A32 ⟨h24, trivial⟩ (by kernel_rfl)
      all_goals kernel_rfl
     all_goals kernel_rfl
    ·
     refine .xF he ?_ ?_
     refine .exit rfl ?_
     exact .xS [.pick [0, 1, 2, 3, 4, 5] [4, 5, 6, 7]] (hJJ6 (s18.1, s18.2.2.1, s18.2.2.2.1, s18.2.2.2.2.1, s18.2.2.2.2.2.1, s18.2.2.2.2.2.2.1, s18.2.2.2.2.2.2.2.1, s18.2.2.2.2.2.2.2.2.1, s18.2.2.2.2.2.2.2.2.2.1, s18.2.2.2.2.2.2.2.2.2.2.1, s18.2.2.2.2.2.2.2.2.2.2.2.1, s18.2.2.2.2.2.2.2.2.2.2.2.2.1, s18.2.2.2.2.2.2.2.2.2.2.2.2.2) hF) (by kernel_rfl)
     all_goals kernel_rfl
    all_goals kernel_rfl
   all_goals kernel_rfl
  all_goals kernel_rfl
 ·
  refine .uB [0] [1, 2, 3, 4, 5, 6, 7] [] [] rfl trivial ?_ ?_
  obtain ⟨r3, h35, hF⟩ := bindE hF
  refine .uC false [] (S_spec_StreamOk k a1 a2 a3 a4 a5 a6 a7 a8 a9 a10 a11 a12 r3 h35) rfl ?_ ?_
  refine .uN [2, 3] [4, 5, 6, 7] [] [] rfl trivial ?_ ?_
  rcases condE hF with ⟨he, hF⟩ | ⟨he, hF⟩
  ·
   refine WT.putB [16, 15] he ?_ ?_
   refine .vE [] (some ([1, 2, 3, 4, 5, 6], [1, 4, 5, 6, 20])) [] trivial ?_ ?_
   exact .xS [.pick [0, 1, 2, 3, 4, 5] [1, 4, 5, 6, 20]] (hJJ2 (true) hF) (by kernel_rfl)
   all_goals kernel_rfl
  ·
   refine WT.putB [16, 15] he ?_ ?_
   refine .vE [] (some ([1, 2, 3, 4, 5, 6], [1, 4, 5, 6, 20])) [] trivial ?_ ?_
   exact .xS [.pick [0, 1, 2, 3, 4, 5] [1, 4, 5, 6, 20]] (hJJ2 (decide ((a13.length : Int) > 60)) hF) (by kernel_rfl)
   all_goals kernel_rfl
  all_goals kernel_rfl
 all_goals kernel_rfl
theorem S_slices_Clone_impl_Node_impl_Node (k : Nat) (a1 r : List (Int × (Int × Int))) (hF : F_slices_Clone_impl_Node_impl_Node k a1 = some r) : Spec Tryz.prog 95 [.p (.c (.vw none tyIII a1))] [] (.p (.c (.sl 0))) [.row tyIII r] := by
  refine Spec.of 0 8 Tryz.func95 rfl rfl (Nat.le_of_ble_eq_true rfl) rfl fun w0 S0 Z0 M0 R0 hE => ?_
  unfold F_slices_Clone_impl_Node_impl_Node at hF
  obtain ⟨h, hF⟩ := iteE hF
  have hr := Option.some.inj hF
  subst hr
  refine .seq (.reg [] (st' := ⟨[(2, .p (.c .nilsl)), (0, .p (.c (.vw none tyIII a1)))], []⟩) (cs := []) (ws' := []) (by kernel_rfl) trivial ?_)
  refine .seq (.seq ?_)
  refine .regB [0] [1] [] (st' := ⟨[(3, .p (.c (.vw none tyIII a1))), (2, .p (.c .nilsl)), (0, .p (.c (.vw none tyIII a1)))], []⟩) (cs := []) (ws' := []) rfl (by kernel_rfl) trivial ?_
  refine .nilcmp (s := ⟨tyIII, a1⟩) (d := 4) rfl (by kernel_rfl) rfl (by kernel_rfl) (by kernel_rfl) rfl (Nat.lt_of_lt_of_le (by decide : 4 < 5) (Nat.le_of_ble_eq_true rfl)) fun b hb => ?_
  refine .regionEnd ?_
  cases b
  · refine .condF (by kernel_rfl) (.skip (.seq ?_))
    refine .regB [0, 1] [2, 3] [.el tyIII (0, (0, 0))] (st' := ⟨[(6, .p (.c (.vw none tyIII a1))), (5, .p (.c (.sl 0))), (4, bB false), (3, .p (.c (.vw none tyIII a1))), (2, .p (.c .nilsl)), (0, .p (.c (.vw none tyIII a1)))], [.row tyIII []]⟩) (cs := []) (ws' := []) rfl (by kernel_rfl) trivial ?_
    refine .oper [.tmp 5, .tmp 6] false [.whole 0] (st' := ⟨[(7, .p (.c (.sl 1))), (6, .p (.c (.vw none tyIII a1))), (5, .p (.c (.sl 0))), (4, bB false), (3, .p (.c (.vw none tyIII a1))), (2, .p (.c .nilsl)), (0, .p (.c (.vw none tyIII a1)))], [.dead, .row tyIII a1]⟩) rfl (by kernel_rfl) (by kernel_rfl) (append_view (d := tyIII) (xs := []) (ys := a1) rfl (by kernel_rfl) (by kernel_rfl) h) (by kernel_rfl) ?_
    refine .regN [3] [] [] (st' := ⟨[(2, .p (.c (.sl 1))), (7, .p (.c (.sl 1))), (6, .p (.c (.vw none tyIII a1))), (5, .p (.c (.sl 0))), (4, bB false), (3, .p (.c (.vw none tyIII a1))), (0, .p (.c (.vw none tyIII a1)))], [.dead, .row tyIII a1]⟩) (cs := []) (ws' := []) rfl (by kernel_rfl) trivial (.regionEnd ?_)
    exact .ret2 hE (st' := ⟨[(2, .p (.c (.sl 1))), (7, .p (.c (.sl 1))), (6, .p (.c (.vw none tyIII a1))), (5, .p (.c (.sl 0))), (4, bB false), (3, .p (.c (.vw none tyIII a1))), (0, .p (.c (.vw none tyIII a1)))], [.dead, .row tyIII a1]⟩) (r0 := .p (.c (.sl 1))) [] [1] (by kernel_rfl) (by kernel_rfl) (by kernel_rfl)
  · have ha : a1 = [] := hb rfl
    subst ha
    refine .condT (by kernel_rfl) (.seq ?_)
    refine .reg [] (st' := ⟨[(2, .p (.c .nilsl)), (4, bB true), (3, .p (.c (.vw none tyIII []))), (0, .p (.c (.vw none tyIII [])))], []⟩) (cs := []) (ws' := []) (by kernel_rfl) trivial ?_
    exact .ret2 hE (st' := ⟨[(2, .p (.c (.sl 0))), (4, bB true), (3, .p (.c (.vw none tyIII []))), (0, .p (.c (.vw none tyIII [])))], [.row tyIII []]⟩) (r0 := .p (.c (.sl 0))) [.nr 2 0 tyIII] [0] (by kernel_rfl) (by kernel_rfl) (by kernel_rfl)
theorem S_impl_copyPool (k : Nat) (a1 : (List (Int × (Int × Int)))) (r : (List (Int × (Int × Int)))) (hF : F_impl_copyPool k a1 = some r) : Spec Tryz.prog 66 [aG [.vw none tyIII a1]] [] (aG [.sl 0]) [.row tyIII r] := by
 refine Spec.of 0 7 Tryz.func66 rfl rfl (Nat.le_of_ble_eq_true rfl) rfl fun w0 S0 Z0 M0 R0 hE => ?_
 unfold F_impl_copyPool at hF
 refine .seq ?_
 refine .xW [] (some ([0, 1], [1, 2])) ⟨[(1, pT 0 0), (2, pT 1 0)], [.box [.vw none tyIII a1], .box [.nilsl]]⟩ [] trivial ?_ ?_
 refine .seq ?_
 refine .uB [0, 1] [2, 3, 4] [] [] rfl trivial ?_ ?_
 obtain ⟨r1, h2, hF⟩ := bindE hF
 refine .uC false [] (S_slices_Clone_impl_Node_impl_Node k a1 r1 h2) rfl ?_ ?_
 refine .vE [] (some ([1, 2], [2])) [] trivial ?_ ?_
 cases hF
 exact .xR hE [] [1] (by kernel_rfl)
 all_goals kernel_rfl
theorem S_slices_Clone_int_int (k : Nat) (a1 r : List Int) (hF : F_slices_Clone_int_int k a1 = some r) : Spec Tryz.prog 67 [.p (.c (.vw none tyI a1))] [] (.p (.c (.sl 0))) [.row tyI r] := by
  refine Spec.of 0 8 Tryz.func67 rfl rfl (Nat.le_of_ble_eq_true rfl) rfl fun w0 S0 Z0 M0 R0 hE => ?_
  unfold F_slices_Clone_int_int at hF
  obtain ⟨h, hF⟩ := iteE hF
  have hr := Option.some.inj hF
  subst hr
  refine .seq (.reg [] (st' := ⟨[(2, .p (.c .nilsl)), (0, .p (.c (.vw none tyI a1)))], []⟩) (cs := []) (ws' := []) (by kernel_rfl) trivial ?_)
  refine .seq (.seq ?_)
  refine .regB [0] [1] [] (st' := ⟨[(3, .p (.c (.vw none tyI a1))), (2, .p (.c .nilsl)), (0, .p (.c (.vw none tyI a1)))], []⟩) (cs := []) (ws' := []) rfl (by kernel_rfl) trivial ?_
  refine .nilcmp (s := ⟨tyI, a1⟩) (d := 4) rfl (by kernel_rfl) rfl (by kernel_rfl) (by kernel_rfl) rfl (Nat.lt_of_lt_of_le (by decide : 4 < 5) (Nat.le_of_ble_eq_true rfl)) fun b hb => ?_
  refine .regionEnd ?_
  cases b
  · refine .condF (by kernel_rfl) (.skip (.seq ?_))
    refine .regB [0, 1] [2, 3] [.el tyI 0] (st' := ⟨[(6, .p (.c (.vw none tyI a1))), (5, .p (.c (.sl 0))), (4, bB false), (3, .p (.c (.vw none tyI a1))), (2, .p (.c .nilsl)), (0, .p (.c (.vw none tyI a1)))], [.row tyI []]⟩) (cs := []) (ws' := []) rfl (by kernel_rfl) trivial ?_
    refine .oper [.tmp 5, .tmp 6] false [.whole 0] (st' := ⟨[(7, .p (.c (.sl 1))), (6, .p (.c (.vw none tyI a1))), (5, .p (.c (.sl 0))), (4, bB false), (3, .p (.c (.vw none tyI a1))), (2, .p (.c .nilsl)), (0, .p (.c (.vw none tyI a1)))], [.dead, .row tyI a1]⟩) rfl (by kernel_rfl) (by kernel_rfl) (append_view (d := tyI) (xs := []) (ys := a1) rfl (by kernel_rfl) (by kernel_rfl) h) (by kernel_rfl) ?_
    refine .regN [3] [] [] (st' := ⟨[(2, .p (.c (.sl 1))), (7, .p (.c (.sl 1))), (6, .p (.c (.vw none tyI a1))), (5, .p (.c (.sl 0))), (4, bB false), (3, .p (.c (.vw none tyI a1))), (0, .p (.c (.vw none tyI a1)))], [.dead, .row tyI a1]⟩) (cs := []) (ws' := []) rfl (by kernel_rfl) trivial (.regionEnd ?_)
    exact .ret2 hE (st' := ⟨[(2, .p (.c (.sl 1))), (7, .p (.c (.sl 1))), (6, .p (.c (.vw none tyI a1))), (5, .p (.c (.sl 0))), (4, bB false), (3, .p (.c (.vw none tyI a1))), (0, .p (.c (.vw none tyI a1)))], [.dead, .row tyI a1]⟩) (r0 := .p (.c (.sl 1))) [] [1] (by kernel_rfl) (by kernel_rfl) (by kernel_rfl)
  · have ha : a1 = [] := hb rfl
    subst ha
    refine .condT (by kernel_rfl) (.seq ?_)
    refine .reg [] (st' := ⟨[(2, .p (.c .nilsl)), (4, bB true), (3, .p (.c (.vw none tyI []))), (0, .p (.c (.vw none tyI [])))], []⟩) (cs := []) (ws' := []) (by kernel_rfl) trivial ?_
    exact .ret2 hE (st' := ⟨[(2, .p (.c (.sl 0))), (4, bB true), (3, .p (.c (.vw none tyI []))), (0, .p (.c (.vw none tyI [])))], [.row tyI []]⟩) (r0 := .p (.c (.sl 0))) [.nr 2 0 tyI] [0] (by kernel_rfl) (by kernel_rfl) (by kernel_rfl)
theorem S_impl_copyStream (k : Nat) (a1 : (List (Int × (Int × Int)))) (a2 : (List Int)) (a3 : Int) (a4 : Int) (a5 : Int) (a6 : Bool) (a7 : Int) (a8 : Int) (a9 : Int) (a10 : Bool) (a11 : (List Int)) (a12 : (List Int)) (r : (List (Int × (Int × Int))) × (List Int) × (List Int) × (List Int)) (hF : F_impl_copyStream k a1 a2 a3 a4 a5 a6 a7 a8 a9 a10 a11 a12 = some r) : Spec Tryz.prog 32 [aG [.vw none tyIII a1, .vw none tyI a2, ci a3, ci a4, ci a5, .bool a6, ci a7, ci a8, ci a9, .bool a10, .vw none tyI a11, .vw none tyI a12]] [] (aG [.sl 0, .sl 1, ci a3, ci a4, ci a5, .bool a6, ci a7, ci a8, ci a9, .bool a10, .sl 2, .sl 3]) [.row tyIII r.1, .row tyI r.2.1, .row tyI r.2.2.1, .row tyI r.2.2.2] := by
 refine Spec.of 0 20 Tryz.func32 rfl rfl (Nat.le_of_ble_eq_true rfl) rfl fun w0 S0 Z0 M0 R0 hE => ?_
 unfold F_impl_copyStream at hF
 refine .seq ?_
 refine .xW [] (some ([0, 1], [1, 2])) ⟨[(1, pT 0 0), (2, pT 1 0)], [.box [.vw none tyIII a1, .vw none tyI a2, ci a3, ci a4, ci a5, .bool a6, ci a7, ci a8, ci a9, .bool a10, .vw none tyI a11, .vw none tyI a12], .box [.nilsl, .nilsl, ci 0, ci 0, ci 0, .bool false, ci 0, ci 0, ci 0, .bool false, .nilsl, .nilsl]]⟩ [] trivial ?_ ?_
 refine .seq ?_
 refine .uB [0, 1] [2, 3, 4] [] [] rfl trivial ?_ ?_
 obtain ⟨r1, h8, hF⟩ := bindE hF
 refine .uC false [] (S_impl_copyPool k a1 r1 h8) rfl ?_ ?_
 refine .xE [] (some ([0, 1, 2], [1, 2])) ⟨[(1, pT 0 0), (2, pT 1 0)], [.box [.sl 2, .vw none tyI a2, ci a3, ci a4, ci a5, .bool a6, ci a7, ci a8, ci a9, .bool a10, .vw none tyI a11, .vw none tyI a12], .box [.nilsl, .nilsl, ci 0, ci 0, ci 0, .bool false, ci 0, ci 0, ci 0, .bool false, .nilsl, .nilsl], .row tyIII r1]⟩ [] trivial ?_ ?_
 refine .seq ?_
 refine .uB [0, 1] [2, 3, 4] [] [] rfl trivial ?_ ?_
 obtain ⟨r2, h7, hF⟩ := bindE hF
 refine .uC false [] (S_slices_Clone_int_int k a2 r2 h7) rfl ?_ ?_
 refine .xE [] (some ([0, 1, 2, 3], [1, 2])) ⟨[(1, pT 0 0), (2, pT 1 0)], [.box [.sl 2, .sl 3, ci a3, ci a4, ci a5, .bool a6, ci a7, ci a8, ci a9, .bool a10, .vw none tyI a11, .vw none tyI a12], .box [.nilsl, .nilsl, ci 0, ci 0, ci 0, .bool false, ci 0, ci 0, ci 0, .bool false, .nilsl, .nilsl], .row tyIII r1, .row tyI r2]⟩ [] trivial ?_ ?_
 refine .seq ?_
 refine .uB [0, 1] [2, 3, 4] [] [] rfl trivial ?_ ?_
 obtain ⟨r3, h6, hF⟩ := bindE hF
 refine .uC false [] (S_slices_Clone_int_int k a11 r3 h6) rfl ?_ ?_
 refine .xE [] (some ([0, 1, 2, 3, 4], [1, 2])) ⟨[(1, pT 0 0), (2, pT 1 0)], [.box [.sl 2, .sl 3, ci a3, ci a4, ci a5, .bool a6, ci a7, ci a8, ci a9, .bool a10, .sl 4, .vw none tyI a12], .box [.nilsl, .nilsl, ci 0, ci 0, ci 0, .bool false, ci 0, ci 0, ci 0, .bool false, .nilsl, .nilsl], .row tyIII r1, .row tyI r2, .row tyI r3]⟩ [] trivial ?_ ?_
 refine .seq ?_
 refine .uB [0, 1] [2, 3, 4] [] [] rfl trivial ?_ ?_
 obtain ⟨r4, h5, hF⟩ := bindE hF
 refine .uC false [] (S_slices_Clone_int_int k a12 r4 h5) rfl ?_ ?_
 refine .vE [] (some ([0, 1, 2, 3, 4, 5], [1, 2])) [] trivial ?_ ?_
 refine .seq ?_
 refine .vW [] (some ([1, 2, 3, 4, 5], [2])) [] trivial ?_ ?_
 cases hF
 exact .xR hE [] [1, 2, 3, 4] (by kernel_rfl)
 all_goals kernel_rfl
theorem S_impl_inRange (k : Nat) (a1 : Int) (a2 : Int) (a3 : Int) (r : Bool) (hF : F_impl_inRange k a1 a2 a3 = some r) : Spec Tryz.prog 86 [iI a1, iI a2, iI a3] [] (bB r) [] := by
 refine Spec.of 0 15 Tryz.func86 rfl rfl (Nat.le_of_ble_eq_true rfl) rfl fun w0 S0 Z0 M0 R0 hE => ?_
 unfold F_impl_inRange at hF
 refine .seq ?_
 refine .xW [] none ⟨[(6, bB false), (0, iI a1), (1, iI a2), (2, iI a3)], []⟩ [] trivial ?_ ?_
 refine .seq ?_
 refine .uB [0, 1, 2, 3] [4, 5, 6, 7, 8] [] [] rfl trivial ?_ ?_
 rcases condE hF with ⟨he, hF⟩ | ⟨he, hF⟩
 ·
  refine WT.putB [10, 9] he ?_ ?_
  refine .vE [] (some ([], [6])) [] trivial ?_ ?_
  cases hF
  exact .xR hE [] [] (by kernel_rfl)
  all_goals kernel_rfl
 ·
  refine WT.putB [10, 9] he ?_ ?_
  refine .vE [] (some ([], [6])) [] trivial ?_ ?_
  cases hF
  exact .xR hE [] [] (by kernel_rfl)
  all_goals kernel_rfl
 all_goals kernel_rfl
theorem S_impl_Pool_isTerm (k : Nat) (a1 : Int) (a2 : (List (Int × (Int × Int)))) (r : Bool) (hF : F_impl_Pool_isTerm k a1 a2 = some r) : Spec Tryz.prog 84 [pT 0 0, iI a1] [.box [.vw none tyIII a2]] (bB r) [.box [.vw none tyIII a2]] := by
 refine Spec.of 1 13 Tryz.func84 rfl rfl (Nat.le_of_ble_eq_true rfl) rfl fun w0 S0 Z0 M0 R0 hE => ?_
 unfold F_impl_Pool_isTerm at hF
 refine .seq ?_
 refine .xW [] none ⟨[(4, bB false), (0, pT 0 0), (1, iI a1)], [.box [.vw none tyIII a2]]⟩ [] trivial ?_ ?_
 refine .seq ?_
 refine .uB [0, 1, 2, 3, 4, 5, 6] [7, 8] [] [] rfl trivial ?_ ?_
 obtain ⟨r1, h2, hF⟩ := bindE hF
 refine .uC false [] (S_impl_inRange k a1 0 (w64 ((a2.length : Int) - 1)) r1 h2) rfl ?_ ?_
 refine .vE [] (some ([0], [4])) [] trivial ?_ ?_
 cases hF
 exact .xR hE [] [0] (by kernel_rfl)
 all_goals kernel_rfl
theorem S_impl_count (k : Nat) (a1 : Int) (r : Int) (hF : F_impl_count k a1 = some r) : Spec Tryz.prog 142 [iI a1] [] (iI r) [] := by
 refine Spec.of 0 15 Tryz.func142 rfl rfl (Nat.le_of_ble_eq_true rfl) rfl fun w0 S0 Z0 M0 R0 hE => ?_
 unfold F_impl_count at hF
 refine .seq ?_
 refine .vW [] none [] trivial ?_ ?_
 refine .seq ?_
 refine .seq ?_
 refine .vW [] (some ([], [2, 3])) [] trivial ?_ ?_
 refine .block ?_
 refine .seq ?_
 refine .xW [] (some ([], [2, 3, 4])) ⟨[(2, iI 0), (3, iI a1), (4, bB (a1 == 1))], []⟩ [] trivial ?_ ?_
 rcases condE hF with ⟨he, hF⟩ | ⟨he, hF⟩
 ·
  refine .xT he ?_ ?_
  refine .seq ?_
  refine .vW [] (some ([], [2])) [] trivial ?_ ?_
  cases hF
  exact .xR hE [] [] (by kernel_rfl)
  all_goals kernel_rfl
 ·
  refine .xF he ?_ ?_
  refine .seq ?_
  refine .seq ?_
  refine .xW [] (some ([], [2, 3, 6])) ⟨[(2, iI 0), (3, iI a1), (6, bB (a1 == 5))], []⟩ [] trivial ?_ ?_
  refine WT.join (f := fun v4 => F_impl_count_J3 k a1 v4) (r := r) (S := fun v4 => ⟨[(2, iI 0), (3, iI a1), (6, bB v4)], []⟩) (fun v4 hF => ?_) (fun hJJ3 => ?_)
  ·
   unfold F_impl_count_J3 at hF
   rcases condE hF with ⟨he, hF⟩ | ⟨he, hF⟩
   ·
    refine .xT he ?_ ?_
    refine .seq ?_
    refine .vW [] (some ([], [2])) [] trivial ?_ ?_
    cases hF
    exact .xR hE [] [] (by kernel_rfl)
    all_goals kernel_rfl
   ·
    refine .xF he ?_ ?_
    refine .seq ?_
    refine .seq ?_
    refine .xW [] (some ([], [2, 3, 9])) ⟨[(2, iI 0), (3, iI a1), (9, bB (a1 == 2))], []⟩ [] trivial ?_ ?_
    refine WT.join (f := fun v10 => F_impl_count_J6 k v10) (r := r) (S := fun v10 => ⟨[(2, iI 0), (9, bB v10)], []⟩) (fun v10 hF => ?_) (fun hJJ6 => ?_)
    ·
     unfold F_impl_count_J6 at hF
     rcases condE hF with ⟨he, hF⟩ | ⟨he, hF⟩
     ·
      refine .xT he ?_ ?_
      refine .seq ?_
      refine .vW [] (some ([], [2])) [] trivial ?_ ?_
      cases hF
      exact .xR hE [] [] (by kernel_rfl)
      all_goals kernel_rfl
     ·
      refine .xF he ?_ ?_
      refine .skip ?_
      refine .inBlock ?_
      refine .seq ?_
      refine .vW [] (some ([], [2])) [] trivial ?_ ?_
      cases hF
      exact .xR hE [] [] (by kernel_rfl)
      all_goals kernel_rfl
     all_goals kernel_rfl
    ·
     rcases condE hF with ⟨he, hF⟩ | ⟨he, hF⟩
     ·
      refine WT.putB [9] he ?_ ?_
      refine .yT ?_ ?_
      refine .skip ?_
      exact .xS [.pick [] [2, 9]] (hJJ6 (true) hF) (by kernel_rfl)
      all_goals kernel_rfl
     ·
      refine WT.putB [9] he ?_ ?_
      refine .yF ?_ ?_
      refine .seq ?_
      refine .xW [] (some ([], [2, 3, 9])) ⟨[(2, iI 0), (3, iI a1), (9, bB (a1 == 3))], []⟩ [] trivial ?_ ?_
      rcases condE hF with ⟨he, hF⟩ | ⟨he, hF⟩
      ·
       refine WT.putB [9] he ?_ ?_
       refine .yT ?_ ?_
       refine .skip ?_
       exact .xS [.pick [] [2, 9]] (hJJ6 (true) hF) (by kernel_rfl)
       all_goals kernel_rfl
      ·
       refine WT.putB [9] he ?_ ?_
       refine .yF ?_ ?_
       refine .seq ?_
       refine .xW [] (some ([], [2, 3, 9])) ⟨[(2, iI 0), (3, iI a1), (9, bB (a1 == 4))], []⟩ [] trivial ?_ ?_
       rcases condE hF with ⟨he, hF⟩ | ⟨he, hF⟩
       ·
        refine WT.putB [9] he ?_ ?_
        refine .yT ?_ ?_
        refine .skip ?_
        exact .xS [.pick [] [2, 9]] (hJJ6 (true) hF) (by kernel_rfl)
        all_goals kernel_rfl
       ·
        refine WT.putB [9] he ?_ ?_
        refine .yF ?_ ?_
        refine .seq ?_
        refine .xW [] (some ([], [2, 3, 9])) ⟨[(2, iI 0), (3, iI a1), (9, bB (a1 == 6))], []⟩ [] trivial ?_ ?_
        rcases condE hF with ⟨he, hF⟩ | ⟨he, hF⟩
        ·
         refine WT.putB [9] he ?_ ?_
         refine .yT ?_ ?_
         refine .skip ?_
         exact .xS [.pick [] [2, 9]] (hJJ6 (true) hF) (by kernel_rfl)
         all_goals kernel_rfl
        ·
         refine WT.putB [9] he ?_ ?_
         refine .yF ?_ ?_
         refine .vW [] (some ([], [2, 9])) [] trivial ?_ ?_
         exact .xS [.pick [] [2, 9]] (hJJ6 (a1 == 8) hF) (by kernel_rfl)
         all_goals kernel_rfl
        all_goals kernel_rfl
       all_goals kernel_rfl
      all_goals kernel_rfl
     all_goals kernel_rfl
    all_goals kernel_rfl
   all_goals kernel_rfl
  ·
   rcases condE hF with ⟨he, hF⟩ | ⟨he, hF⟩
   ·
    refine WT.putB [6] he ?_ ?_
    refine .yT ?_ ?_
    refine .skip ?_
    exact .xS [.pick [] [2, 3, 6]] (hJJ3 (true) hF) (by kernel_rfl)
    all_goals kernel_rfl
   ·
    refine WT.putB [6] he ?_ ?_
    refine .yF ?_ ?_
    refine .vW [] (some ([], [2, 3, 6])) [] trivial ?_ ?_
    exact .xS [.pick [] [2, 3, 6]] (hJJ3 (a1 == 7) hF) (by kernel_rfl)
    all_goals kernel_rfl
   all_goals kernel_rfl
  all_goals kernel_rfl
 all_goals kernel_rfl
theorem S_impl_nodeOk (k : Nat) (a1 : Int) (a2 : Int) (a3 : Int) (a4 : Int) (r : Bool) (hF : F_impl_nodeOk k a1 a2 a3 a4 = some r) : Spec Tryz.prog 114 [aG [ci a1, ci a2, ci a3], iI a4] [] (bB r) [] := by
 refine Spec.of 0 56 Tryz.func114 rfl rfl (Nat.le_of_ble_eq_true rfl) rfl fun w0 S0 Z0 M0 R0 hE => ?_
 unfold F_impl_nodeOk at hF
 refine .seq ?_
 refine .xW [] (some ([0], [1, 2, 4])) ⟨[(1, iI a4), (2, pT 0 0), (4, bB false)], [.box [ci a1, ci a2, ci a3]]⟩ [] trivial ?_ ?_
 refine .seq ?_
 refine .seq ?_
 refine .uB [0, 1] [2] [] [] rfl trivial ?_ ?_
 obtain ⟨r1, h17, hF⟩ := bindE hF
 refine .uC false [] (S_impl_count k a1 r1 h17) rfl ?_ ?_
 refine .vE [] (some ([0], [1, 2, 4, 7])) [] trivial ?_ ?_
 refine .block ?_
 refine .seq ?_
 refine .xW [] (some ([0], [1, 2, 4, 7, 8])) ⟨[(1, iI a4), (2, pT 0 0), (4, bB false), (7, iI r1), (8, bB (r1 == 0))], [.box [ci a1, ci a2, ci a3]]⟩ [] trivial ?_ ?_
 rcases condE hF with ⟨he, hF⟩ | ⟨he, hF⟩
 ·
  refine .xT he ?_ ?_
  refine .seq ?_
  refine .uB [0, 1] [2, 3, 4, 5, 6, 7, 8] [] [] rfl trivial ?_ ?_
  obtain ⟨r5, h13, hF⟩ := bindE hF
  refine .uC false [] (S_impl_inRange k a2 0 199 r5 h13) rfl ?_ ?_
  refine .uN [3] [4, 5, 6, 7, 8] [] [] rfl trivial ?_ ?_
  rcases condE hF with ⟨he, hF⟩ | ⟨he, hF⟩
  ·
   refine WT.putB [13, 12] he ?_ ?_
   refine .vE [] (some ([], [4])) [] trivial ?_ ?_
   cases hF
   exact .xR hE [] [] (by kernel_rfl)
   all_goals kernel_rfl
  ·
   refine WT.putB [13, 12] he ?_ ?_
   refine .vE [] (some ([], [4])) [] trivial ?_ ?_
   cases hF
   exact .xR hE [] [] (by kernel_rfl)
   all_goals kernel_rfl
  all_goals kernel_rfl
 ·
  refine .xF he ?_ ?_
  refine .seq ?_
  refine .xW [] (some ([0], [1, 2, 4, 7, 18])) ⟨[(1, iI a4), (2, pT 0 0), (4, bB false), (7, iI r1), (18, bB (r1 == 1))], [.box [ci a1, ci a2, ci a3]]⟩ [] trivial ?_ ?_
  rcases condE hF with ⟨he, hF⟩ | ⟨he, hF⟩
  ·
   refine .xT he ?_ ?_
   refine .seq ?_
   refine .uB [0, 1, 2, 3] [4, 5, 6, 7, 8, 9, 10] [] [] rfl trivial ?_ ?_
   obtain ⟨r8, h14, hF⟩ := bindE hF
   refine .uC false [] (S_impl_inRange k a2 0 (w64 (a4 - 1)) r8 h14) rfl ?_ ?_
   refine .uN [5] [6, 7, 8, 9, 10] [] [] rfl trivial ?_ ?_
   rcases condE hF with ⟨he, hF⟩ | ⟨he, hF⟩
   ·
    refine WT.putB [25, 24] he ?_ ?_
    refine .vE [] (some ([], [4])) [] trivial ?_ ?_
    cases hF
    exact .xR hE [] [] (by kernel_rfl)
    all_goals kernel_rfl
   ·
    refine WT.putB [25, 24] he ?_ ?_
    refine .vE [] (some ([], [4])) [] trivial ?_ ?_
    cases hF
    exact .xR hE [] [] (by kernel_rfl)
    all_goals kernel_rfl
   all_goals kernel_rfl
  ·
   refine .xF he ?_ ?_
   refine .seq ?_
   refine .xW [] (some ([0], [1, 2, 4, 30])) ⟨[(1, iI a4), (2, pT 0 0), (4, bB false), (30, bB (r1 == 2))], [.box [ci a1, ci a2, ci a3]]⟩ [] trivial ?_ ?_
   rcases condE hF with ⟨he, hF⟩ | ⟨he, hF⟩
   ·
    refine .xT he ?_ ?_
    refine .seq ?_
    refine .uB [0, 1, 2, 3] [4, 5, 6, 7, 8, 9, 10, 11, 12, 13, 14, 15, 16, 17, 18, 19, 20, 21, 22, 23, 24] [] [] rfl trivial ?_ ?_
    obtain ⟨r11, h16, hF⟩ := bindE hF
    refine .uC false [] (S_impl_inRange k a2 0 (w64 (a4 - 1)) r11 h16) rfl ?_ ?_
    refine .uN [5] [6, 7, 8, 9, 10, 11, 12, 13, 14, 15, 16, 17, 18, 19, 20, 21, 22, 23, 24] [] [] rfl trivial ?_ ?_
    rcases condE hF with ⟨he, hF⟩ | ⟨he, hF⟩
    ·
     refine WT.putB [37, 36] he ?_ ?_
     refine .uN [6, 7, 8, 9] [10, 11, 12, 13, 14, 15, 16, 17, 18, 19, 20, 21, 22, 23, 24] [] [] rfl trivial ?_ ?_
     obtain ⟨r12, h15, hF⟩ := bindE hF
     refine .uC false [] (S_impl_inRange k a3 0 (w64 (a4 - 1)) r12 h15) rfl ?_ ?_
     refine .uN [11, 12] [13, 14, 15, 16, 17, 18, 19, 20, 21, 22, 23, 24] [] [] rfl trivial ?_ ?_
     rcases condE hF with ⟨he, hF⟩ | ⟨he, hF⟩
     ·
      refine WT.putB [44, 43, 42] he ?_ ?_
      refine .uN [13, 14, 15, 16] [17, 18, 19, 20, 21, 22, 23, 24] [] [] rfl trivial ?_ ?_
      rcases condE hF with ⟨he, hF⟩ | ⟨he, hF⟩
      ·
       refine WT.putB [48, 47] he ?_ ?_
       refine .vE [] (some ([], [4])) [] trivial ?_ ?_
       cases hF
       exact .xR hE [] [] (by kernel_rfl)
       all_goals kernel_rfl
      ·
       refine WT.putB [48, 47] he ?_ ?_
       refine .vE [] (some ([], [4])) [] trivial ?_ ?_
       cases hF
       exact .xR hE [] [] (by kernel_rfl)
       all_goals kernel_rfl
      all_goals kernel_rfl
     ·
      refine WT.putB [44, 43, 42] he ?_ ?_
      refine .vE [] (some ([], [4])) [] trivial ?_ ?_
      cases hF
      exact .xR hE [] [] (by kernel_rfl)
      all_goals kernel_rfl
     all_goals kernel_rfl
    ·
     refine WT.putB [37, 36] he ?_ ?_
     refine .vE [] (some ([], [4])) [] trivial ?_ ?_
     cases hF
     exact .xR hE [] [] (by kernel_rfl)
     all_goals kernel_rfl
    all_goals kernel_rfl
   ·
    refine .xF he ?_ ?_
    refine .skip ?_
    refine .inBlock ?_
    refine .seq ?_
    refine .vW [] (some ([], [4])) [] trivial ?_ ?_
    cases hF
    exact .xR hE [] [] (by kernel_rfl)
    all_goals kernel_rfl
   all_goals kernel_rfl
  all_goals kernel_rfl
 all_goals kernel_rfl
theorem S_impl_PoolOk (k : Nat) (a1 : (List (Int × (Int × Int)))) (r : Bool) (hF : F_impl_PoolOk k a1 = some r) : Spec Tryz.prog 85 [aG [.vw none tyIII a1]] [] (bB r) [] := by
 refine Spec.of 0 36 Tryz.func85 rfl rfl (Nat.le_of_ble_eq_true rfl) rfl fun w0 S0 Z0 M0 R0 hE => ?_
 unfold F_impl_PoolOk at hF
 refine .seq ?_
 refine .vW [] (some ([0], [1, 2])) [] trivial ?_ ?_
 refine .seq ?_
 refine .seq ?_
 refine .xW [] (some ([0], [1, 2, 9])) ⟨[(1, pT 0 0), (2, bB false), (9, bB (decide ((a1.length : Int) > 500)))], [.box [.vw none tyIII a1]]⟩ [] trivial ?_ ?_
 rcases condE hF with ⟨he, hF⟩ | ⟨he, hF⟩
 ·
  refine .xT he ?_ ?_
  refine .seq ?_
  refine .vW [] (some ([0], [1, 2])) [] trivial ?_ ?_
  cases hF
  exact .xR hE [] [] (by kernel_rfl)
  all_goals kernel_rfl
 ·
  refine .xF he ?_ ?_
  refine .skip ?_
  refine .seq ?_
  refine .vW [.el tyIII (0, (0, 0))] (some ([0, 1], [1, 2, 3])) [] trivial ?_ ?_
  refine .seq ?_
  refine .seq ?_
  refine .xW [] (some ([1], [2, 3, 12, 13, 14])) ⟨[(2, bB false), (3, .p (.c (.mp 0))), (12, vV none tyIII a1), (13, iI (a1.length : Int)), (14, iI 0)], [.mp tyIII ([] : List ((Int × (Int × Int)) × Int)) none]⟩ [] trivial ?_ ?_
  refine WT.join (f := fun v28 => F_impl_PoolOk_J2 k v28) (r := r) (S := fun v28 => ⟨[(2, bB false)], []⟩) (fun v28 hF => ?_) (fun hJJ2 => ?_)
  ·
   unfold F_impl_PoolOk_J2 at hF
   refine .seq ?_
   refine .vW [] none [] trivial ?_ ?_
   cases hF
   exact .xR hE [] [] (by kernel_rfl)
   all_goals kernel_rfl
  ·
   refine .block ?_
   refine WT.xL (fun s16 => ⟨[(2, bB false), (3, .p (.c (.mp 0))), (12, vV none tyIII a1), (13, iI (a1.length : Int)), (14, iI s16.1)], [.mp tyIII s16.2 none]⟩) (l := fun n x => F_impl_PoolOk_L3 k a1 (F_impl_PoolOk_J2 k) n x) (r := r) [.pick [0] [2, 3, 12, 13, 14]] (0, ([] : List ((Int × (Int × Int)) × Int))) k hF (fun _ => rfl) (fun nL3 s16 ih hF => ?_) ?_
   dsimp only [F_impl_PoolOk_L3] at hF
   refine .seq ?_
   refine .xW [] none ⟨[(15, bB (decide (s16.1 < (a1.length : Int)))), (2, bB false), (3, .p (.c (.mp 0))), (12, vV none tyIII a1), (13, iI (a1.length : Int)), (14, iI s16.1)], [.mp tyIII s16.2 none]⟩ [] trivial ?_ ?_
   refine .seq ?_
   rcases condE hF with ⟨he, hF⟩ | ⟨he, hF⟩
   ·
    refine .xT he ?_ ?_
    refine .skip ?_
    refine .seq ?_
    refine .block ?_
    refine .seq ?_
    obtain ⟨x19, h34, hF⟩ := bindE hF
    refine .xW [.el tyIII x19] (some ([0, 1], [2, 3, 4, 5, 12, 13, 14])) ⟨[(2, bB false), (3, .p (.c (.mp 0))), (4, iI s16.1), (5, pT 1 0), (12, vV none tyIII a1), (13, iI (a1.length : Int)), (14, iI s16.1)], [.mp tyIII s16.2 none, .box [ci x19.1, ci x19.2.1, ci x19.2.2]]⟩ [at? a1 s16.1 = some x19] ⟨h34, trivial⟩ ?_ ?_
    refine .seq ?_
    refine WA.xs [.cells 1 0 3] [.dep (some 0)] ?_ ?_
    refine WA.lem (pr' := [.cells 1 0 3]) (fuel' := 0) (listed' := #[true, true, true, true, true, true, true]) (st' := ⟨[(2, bB false), (3, .p (.c (.mp 0))), (4, iI s16.1), (5, pT 1 0), (12, vV none tyIII a1), (13, iI (a1.length : Int)), (14, iI s16.1)], [.mp tyIII (mput s16.2 (x19.1, (x19.2.1, x19.2.2)) (w64 ((mget s16.2 (x19.1, (x19.2.1, x19.2.2))) + 1))) none, .box [ci x19.1, ci x19.2.1, ci x19.2.2]]⟩) ?_ (fun A38 => ?_)
    ·
     refine WA.xD none ⟨[(2, bB false), (3, .p (.c (.mp 0))), (4, iI s16.1), (5, pT 1 0), (12, vV none tyIII a1), (13, iI (a1.length : Int)), (14, iI s16.1)], [.mp tyIII (mput s16.2 (x19.1, (x19.2.1, x19.2.2)) (w64 ((mget s16.2 (x19.1, (x19.2.1, x19.2.2))) + 1))) none, .box [ci x19.1, ci x19.2.1, ci x19.2.2]]⟩ ?_ ?_
     refine .seq ?_
     refine WT.join (f := fun v26 => F_impl_PoolOk_J24 k s16 x19 (F_impl_PoolOk_L3 k a1 (F_impl_PoolOk_J2 k) nL3) v26) (r := r) (S := fun v26 => ⟨[(2, bB false), (3, .p (.c (.mp 0))), (4, iI s16.1), (12, vV none tyIII a1), (13, iI (a1.length : Int)), (14, iI s16.1), (34, bB v26)], [.mp tyIII (mput s16.2 (x19.1, (x19.2.1, x19.2.2)) (w64 ((mget s16.2 (x19.1, (x19.2.1, x19.2.2))) + 1))) none]⟩) (fun v26 hF => ?_) (fun hJJ24 => ?_)
     ·
      unfold F_impl_PoolOk_J24 at hF
      rcases condE hF with ⟨he, hF⟩ | ⟨he, hF⟩
      ·
       refine .xT he ?_ ?_
       refine .seq ?_
       refine .vW [] (some ([0], [2, 3, 4, 12, 13, 14])) [] trivial ?_ ?_
       cases hF
       exact .xR hE [] [] (by kernel_rfl)
       all_goals kernel_rfl
      ·
       refine .xF he ?_ ?_
       refine .skip ?_
       refine .inBlock ?_
       refine .vW [] (some ([0], [2, 3, 4, 12, 13, 14])) [] trivial ?_ ?_
       exact .xS [.pick [0] [2, 3, 12, 13, 14]] (ih (w64 (s16.1 + 1), mput s16.2 (x19.1, (x19.2.1, x19.2.2)) (w64 ((mget s16.2 (x19.1, (x19.2.1, x19.2.2))) + 1))) hF) (by kernel_rfl)
       all_goals kernel_rfl
      all_goals kernel_rfl
     ·
      refine .uB [0, 1, 2, 3, 4] [5, 6, 7, 8, 9] [] [KeyT Tryz.prog 138 tyIII] rfl ⟨keyT_138, trivial⟩ ?_ ?_
      rcases condE hF with ⟨he, hF⟩ | ⟨he, hF⟩
      ·
       refine WT.putB [29, 28] he ?_ ?_
       refine .vE [] (some ([0], [2, 3, 4, 12, 13, 14, 34])) [] trivial ?_ ?_
       exact .xS [.pick [0] [2, 3, 4, 12, 13, 14, 34]] (hJJ24 (true) hF) (by kernel_rfl)
       all_goals kernel_rfl
      ·
       refine WT.putB [29, 28] he ?_ ?_
       refine .uN [5, 6] [7, 8, 9] [] [] rfl trivial ?_ ?_
       obtain ⟨r25, h36, hF⟩ := bindE hF
       refine .uC false [] (S_impl_nodeOk k x19.1 x19.2.1 x19.2.2 s16.1 r25 h36) rfl ?_ ?_
       refine .vE [] (some ([0], [2, 3, 4, 12, 13, 14, 34])) [] trivial ?_ ?_
       exact .xS [.pick [0] [2, 3, 4, 12, 13, 14, 34]] (hJJ24 (!r25) hF) (by kernel_rfl)
       all_goals kernel_rfl
      all_goals kernel_rfl
     all_goals kernel_rfl
    refine WA.lem (pr' := [.cells 1 0 3]) (fuel' := 5) (listed' := #[true, true, false, false, false, false, false]) (st' := ⟨[(2, bB false), (3, .p (.c (.mp 0))), (4, iI s16.1), (5, pT 1 0), (12, vV none tyIII a1), (13, iI (a1.length : Int)), (14, iI s16.1), (19, .p (.c (.mp 0))), (20, aG [ci x19.1, ci x19.2.1, ci x19.2.2])], [.mp tyIII s16.2 none, .box [ci x19.1, ci x19.2.1, ci x19.2.2]]⟩) ?_ (fun A37 => ?_)
    ·
     refine WA.xf [2, 4] (by simp) (allW2 ?_ ?_) ?_
     ·
      refine WO.uM [] [KeyT Tryz.prog 138 tyIII] ⟨keyT_138, trivial⟩ ?_ ?_
      exact WA.to 4 [] [KeyT Tryz.prog 138 tyIII, ((mix s16.2 (x19.1, (x19.2.1, x19.2.2)) : Nat) : Int) = (mix s16.2 (x19.1, (x19.2.1, x19.2.2)) : Nat)] [0, 1] [2, 3, 4, 5, 12, 13, 14] A38 ⟨keyT_138, rfl, trivial⟩ (by kernel_rfl)
      all_goals kernel_rfl
     ·
      refine WO.uM [] [KeyT Tryz.prog 138 tyIII] ⟨keyT_138, trivial⟩ ?_ ?_
      exact WA.to 4 [] [KeyT Tryz.prog 138 tyIII, ((mix s16.2 (x19.1, (x19.2.1, x19.2.2)) : Nat) : Int) = (mix s16.2 (x19.1, (x19.2.1, x19.2.2)) : Nat)] [0, 1] [2, 3, 4, 5, 12, 13, 14] A38 ⟨keyT_138, rfl, trivial⟩ (by kernel_rfl)
      all_goals kernel_rfl
     kernel_rfl
    exact WA.to 2 [] [] [0, 1] [2, 3, 4, 5, 12, 13, 14, 19, 20] A37 trivial (by kernel_rfl)
    all_goals kernel_rfl
   ·
    refine .xF he ?_ ?_
    refine .exit rfl ?_
    exact .xS [.pick [] [2]] (hJJ2 () hF) (by kernel_rfl)
    all_goals kernel_rfl
   all_goals kernel_rfl
  all_goals kernel_rfl
 all_goals kernel_rfl
theorem S_impl_KnowOk (k : Nat) (a1 : (List (Int × (Int × Int)))) (a2 : (List Int)) (r : Bool) (hF : F_impl_KnowOk k a1 a2 = some r) : Spec Tryz.prog 44 [aG [.vw none tyIII a1], vV none tyI a2] [] (bB r) [] := by
 refine Spec.of 0 38 Tryz.func44 rfl rfl (Nat.le_of_ble_eq_true rfl) rfl fun w0 S0 Z0 M0 R0 hE => ?_
 unfold F_impl_KnowOk at hF
 refine .seq ?_
 refine .vW [] (some ([0], [1, 2, 4])) [] trivial ?_ ?_
 refine .seq ?_
 refine .seq ?_
 refine .xW [] none ⟨[(9, iI 0), (8, iI (a2.length : Int)), (7, vV none tyI a2), (1, vV none tyI a2), (2, pT 0 0), (4, bB false)], [.box [.vw none tyIII a1]]⟩ [] trivial ?_ ?_
 refine WT.join (f := fun v21 => F_impl_KnowOk_J1 k a1 a2 v21) (r := r) (S := fun v21 => ⟨[(1, vV none tyI a2), (2, pT 0 0), (4, bB false)], [.box [.vw none tyIII a1]]⟩) (fun v21 hF => ?_) (fun hJJ1 => ?_)
 ·
  unfold F_impl_KnowOk_J1 at hF
  refine .seq ?_
  refine .uB [0, 1, 2, 3] [4, 5, 6, 7] [] [] rfl trivial ?_ ?_
  rcases condE hF with ⟨he, hF⟩ | ⟨he, hF⟩
  ·
   refine WT.putB [34, 33] he ?_ ?_
   refine .uN [4] [5, 6, 7] [] [] rfl trivial ?_ ?_
   obtain ⟨r23, h24, hF⟩ := bindE hF
   refine .uC false [] (S_impl_PoolOk k a1 r23 h24) rfl ?_ ?_
   refine .vE [] (some ([], [4])) [] trivial ?_ ?_
   cases hF
   exact .xR hE [] [] (by kernel_rfl)
   all_goals kernel_rfl
  ·
   refine WT.putB [34, 33] he ?_ ?_
   refine .vE [] (some ([], [4])) [] trivial ?_ ?_
   cases hF
   exact .xR hE [] [] (by kernel_rfl)
   all_goals kernel_rfl
  all_goals kernel_rfl
 ·
  refine .block ?_
  refine WT.xL (fun s12 => ⟨[(1, vV none tyI a2), (2, pT 0 0), (4, bB false), (7, vV none tyI a2), (8, iI (a2.length : Int)), (9, iI s12)], [.box [.vw none tyIII a1]]⟩) (l := fun n x => F_impl_KnowOk_L2 k a1 a2 (F_impl_KnowOk_J1 k a1 a2) n x) (r := r) [.pick [0] [1, 2, 4, 7, 8, 9]] (0) k hF (fun _ => rfl) (fun nL2 s12 ih hF => ?_) ?_
  dsimp only [F_impl_KnowOk_L2] at hF
  refine .seq ?_
  refine .xW [] none ⟨[(10, bB (decide (s12 < (a2.length : Int)))), (1, vV none tyI a2), (2, pT 0 0), (4, bB false), (7, vV none tyI a2), (8, iI (a2.length : Int)), (9, iI s12)], [.box [.vw none tyIII a1]]⟩ [] trivial ?_ ?_
  refine .seq ?_
  rcases condE hF with ⟨he, hF⟩ | ⟨he, hF⟩
  ·
   refine .xT he ?_ ?_
   refine .skip ?_
   refine .seq ?_
   refine .block ?_
   refine .seq ?_
   obtain ⟨x15, h28, hF⟩ := bindE hF
   refine .xW [.el tyI x15] (some ([0], [1, 2, 4, 5, 6, 7, 8, 9])) ⟨[(1, vV none tyI a2), (2, pT 0 0), (4, bB false), (5, iI s12), (6, iI x15), (7, vV none tyI a2), (8, iI (a2.length : Int)), (9, iI s12)], [.box [.vw none tyIII a1]]⟩ [at? a2 s12 = some x15] ⟨h28, trivial⟩ ?_ ?_
   refine .seq ?_
   refine WT.join (f := fun v19 => F_impl_KnowOk_J16 k s12 (F_impl_KnowOk_L2 k a1 a2 (F_impl_KnowOk_J1 k a1 a2) nL2) v19) (r := r) (S := fun v19 => ⟨[(1, vV none tyI a2), (2, pT 0 0), (4, bB false), (6, iI x15), (7, vV none tyI a2), (8, iI (a2.length : Int)), (9, iI s12), (29, bB v19)], [.box [.vw none tyIII a1]]⟩) (fun v19 hF => ?_) (fun hJJ16 => ?_)
   ·
    unfold F_impl_KnowOk_J16 at hF
    rcases condE hF with ⟨he, hF⟩ | ⟨he, hF⟩
    ·
     refine .xT he ?_ ?_
     refine .seq ?_
     refine .vW [] (some ([0], [1, 2, 4, 6, 7, 8, 9])) [] trivial ?_ ?_
     cases hF
     exact .xR hE [] [] (by kernel_rfl)
     all_goals kernel_rfl
    ·
     refine .xF he ?_ ?_
     refine .skip ?_
     refine .inBlock ?_
     refine .vW [] (some ([0], [1, 2, 4, 6, 7, 8, 9])) [] trivial ?_ ?_
     exact .xS [.pick [0] [1, 2, 4, 7, 8, 9]] (ih (w64 (s12 + 1)) hF) (by kernel_rfl)
     all_goals kernel_rfl
    all_goals kernel_rfl
   ·
    refine .uB [0] [1, 2, 3, 4, 5, 6, 7, 8, 9, 10, 11, 12, 13, 14, 15] [] [] rfl trivial ?_ ?_
    obtain ⟨r17, h30, hF⟩ := bindE hF
    refine .uC false [.whole 0] (S_impl_Pool_isTerm k x15 a1 r17 h30) rfl ?_ ?_
    refine .uN [2, 3] [4, 5, 6, 7, 8, 9, 10, 11, 12, 13, 14, 15] [] [] rfl trivial ?_ ?_
    rcases condE hF with ⟨he, hF⟩ | ⟨he, hF⟩
    ·
     refine WT.putB [17, 16] he ?_ ?_
     refine .vE [] (some ([0], [1, 2, 4, 6, 7, 8, 9, 29])) [] trivial ?_ ?_
     exact .xS [.pick [0] [1, 2, 4, 6, 7, 8, 9, 29]] (hJJ16 (true) hF) (by kernel_rfl)
     all_goals kernel_rfl
    ·
     refine WT.putB [17, 16] he ?_ ?_
     refine .uN [4, 5, 6] [7, 8, 9, 10, 11, 12, 13, 14, 15] [] [] rfl trivial ?_ ?_
     rcases condE hF with ⟨he, hF⟩ | ⟨he, hF⟩
     ·
      refine WT.putB [20, 19] he ?_ ?_
      obtain ⟨x18, h29, hF⟩ := bindE hF
      refine .vE [.el tyI x18] (some ([0], [1, 2, 4, 6, 7, 8, 9, 29])) [at? a2 (w64 (s12 - 1)) = some x18] ⟨h29, trivial⟩ ?_ ?_
      exact .xS [.pick [0] [1, 2, 4, 6, 7, 8, 9, 29]] (hJJ16 (decide (x15 ≤ x18)) hF) (by kernel_rfl)
      all_goals kernel_rfl
     ·
      refine WT.putB [20, 19] he ?_ ?_
      refine .vE [] (some ([0], [1, 2, 4, 6, 7, 8, 9, 29])) [] trivial ?_ ?_
      exact .xS [.pick [0] [1, 2, 4, 6, 7, 8, 9, 29]] (hJJ16 (false) hF) (by kernel_rfl)
      all_goals kernel_rfl
     all_goals kernel_rfl
    all_goals kernel_rfl
   all_goals kernel_rfl
  ·
   refine .xF he ?_ ?_
   refine .exit rfl ?_
   exact .xS [.pick [0] [1, 2, 4]] (hJJ1 () hF) (by kernel_rfl)
   all_goals kernel_rfl
  all_goals kernel_rfl
 all_goals kernel_rfl
theorem S_impl_LinkOk (k : Nat) (a1 : (List (Int × (Int × Int)))) (a2 : Int) (a3 : Int) (a4 : Int) (a5 : Bool) (r : Bool) (hF : F_impl_LinkOk k a1 a2 a3 a4 a5 = some r) : Spec Tryz.prog 45 [aG [.vw none tyIII a1], aG [ci a2, ci a3, ci a4, .bool a5]] [] (bB r) [] := by
 refine Spec.of 0 22 Tryz.func45 rfl rfl (Nat.le_of_ble_eq_true rfl) rfl fun w0 S0 Z0 M0 R0 hE => ?_
 unfold F_impl_LinkOk at hF
 refine .seq ?_
 refine .xW [] (some ([0, 1], [2, 3, 4])) ⟨[(2, pT 0 0), (3, pT 1 0), (4, bB false)], [.box [.vw none tyIII a1], .box [ci a2, ci a3, ci a4, .bool a5]]⟩ [] trivial ?_ ?_
 refine .seq ?_
 refine .uB [0, 1] [2, 3, 4, 5, 6, 7, 8, 9, 10, 11, 12, 13, 14, 15, 16, 17] [] [] rfl trivial ?_ ?_
 obtain ⟨r2, h9, hF⟩ := bindE hF
 refine .uC false [.whole 0] (S_impl_Pool_isTerm k a2 a1 r2 h9) rfl ?_ ?_
 refine .uN [3] [4, 5, 6, 7, 8, 9, 10, 11, 12, 13, 14, 15, 16, 17] [] [] rfl trivial ?_ ?_
 rcases condE hF with ⟨he, hF⟩ | ⟨he, hF⟩
 ·
  refine WT.putB [8, 7] he ?_ ?_
  refine .uN [4, 5] [6, 7, 8, 9, 10, 11, 12, 13, 14, 15, 16, 17] [] [] rfl trivial ?_ ?_
  obtain ⟨r3, h8, hF⟩ := bindE hF
  refine .uC false [] (S_impl_inRange k a3 0 20 r3 h8) rfl ?_ ?_
  refine .uN [7, 8] [9, 10, 11, 12, 13, 14, 15, 16, 17] [] [] rfl trivial ?_ ?_
  rcases condE hF with ⟨he, hF⟩ | ⟨he, hF⟩
  ·
   refine WT.putB [13, 12, 11] he ?_ ?_
   refine .uN [9, 10] [11, 12, 13, 14, 15, 16, 17] [] [] rfl trivial ?_ ?_
   obtain ⟨r4, h7, hF⟩ := bindE hF
   refine .uC false [] (S_impl_inRange k a4 0 20 r4 h7) rfl ?_ ?_
   refine .uN [12, 13] [14, 15, 16, 17] [] [] rfl trivial ?_ ?_
   rcases condE hF with ⟨he, hF⟩ | ⟨he, hF⟩
   ·
    refine WT.putB [18, 17, 16] he ?_ ?_
    refine .uN [14] [15, 16, 17] [] [] rfl trivial ?_ ?_
    obtain ⟨r5, h6, hF⟩ := bindE hF
    refine .uC false [] (S_impl_PoolOk k a1 r5 h6) rfl ?_ ?_
    refine .vE [] (some ([], [4])) [] trivial ?_ ?_
    cases hF
    exact .xR hE [] [] (by kernel_rfl)
    all_goals kernel_rfl
   ·
    refine WT.putB [18, 17, 16] he ?_ ?_
    refine .vE [] (some ([], [4])) [] trivial ?_ ?_
    cases hF
    exact .xR hE [] [] (by kernel_rfl)
    all_goals kernel_rfl
   all_goals kernel_rfl
  ·
   refine WT.putB [13, 12, 11] he ?_ ?_
   refine .vE [] (some ([], [4])) [] trivial ?_ ?_
   cases hF
   exact .xR hE [] [] (by kernel_rfl)
   all_goals kernel_rfl
  all_goals kernel_rfl
 ·
  refine WT.putB [8, 7] he ?_ ?_
  refine .vE [] (some ([], [4])) [] trivial ?_ ?_
  cases hF
  exact .xR hE [] [] (by kernel_rfl)
  all_goals kernel_rfl
 all_goals kernel_rfl
theorem S_impl_Stream_termsOk (k : Nat) (a1 : (List Int)) (a2 : (List (Int × (Int × Int)))) (a3 : (List Int)) (a4 : Int) (a5 : Int) (a6 : Int) (a7 : Bool) (a8 : Int) (a9 : Int) (a10 : Int) (a11 : Bool) (a12 : (List Int)) (a13 : (List Int)) (r : Bool) (hF : F_impl_Stream_termsOk k a1 a2 a3 a4 a5 a6 a7 a8 a9 a10 a11 a12 a13 = some r) : Spec Tryz.prog 46 [pT 0 0, vV none tyI a1] [.box [.vw none tyIII a2, .vw none tyI a3, ci a4, ci a5, ci a6, .bool a7, ci a8, ci a9, ci a10, .bool a11, .vw none tyI a12, .vw none tyI a13]] (bB r) [.box [.vw none tyIII a2, .vw none tyI a3, ci a4, ci a5, ci a6, .bool a7, ci a8, ci a9, ci a10, .bool a11, .vw none tyI a12, .vw none tyI a13]] := by
 refine Spec.of 1 23 Tryz.func46 rfl rfl (Nat.le_of_ble_eq_true rfl) rfl fun w0 S0 Z0 M0 R0 hE => ?_
 unfold F_impl_Stream_termsOk at hF
 refine .seq ?_
 refine .vW [] none [] trivial ?_ ?_
 refine .seq ?_
 refine .seq ?_
 refine .xW [] none ⟨[(9, iI 0), (8, iI (a1.length : Int)), (7, vV none tyI a1), (4, bB false), (0, pT 0 0), (1, vV none tyI a1)], [.box [.vw none tyIII a2, .vw none tyI a3, ci a4, ci a5, ci a6, .bool a7, ci a8, ci a9, ci a10, .bool a11, .vw none tyI a12, .vw none tyI a13]]⟩ [] trivial ?_ ?_
 refine WT.join (f := fun v15 => F_impl_Stream_termsOk_J1 k a1 v15) (r := r) (S := fun v15 => ⟨[(1, vV none tyI a1), (4, bB false)], [.box [.vw none tyIII a2, .vw none tyI a3, ci a4, ci a5, ci a6, .bool a7, ci a8, ci a9, ci a10, .bool a11, .vw none tyI a12, .vw none tyI a13]]⟩) (fun v15 hF => ?_) (fun hJJ1 => ?_)
 ·
  unfold F_impl_Stream_termsOk_J1 at hF
  refine .seq ?_
  refine .vW [] (some ([0], [4])) [] trivial ?_ ?_
  cases hF
  exact .xR hE [] [0] (by kernel_rfl)
  all_goals kernel_rfl
 ·
  refine .block ?_
  refine WT.xL (fun s9 => ⟨[(0, pT 0 0), (1, vV none tyI a1), (4, bB false), (7, vV none tyI a1), (8, iI (a1.length : Int)), (9, iI s9)], [.box [.vw none tyIII a2, .vw none tyI a3, ci a4, ci a5, ci a6, .bool a7, ci a8, ci a9, ci a10, .bool a11, .vw none tyI a12, .vw none tyI a13]]⟩) (l := fun n x => F_impl_Stream_termsOk_L2 k a1 a2 (F_impl_Stream_termsOk_J1 k a1) n x) (r := r) [.pick [0] [0, 1, 4, 7, 8, 9]] (0) k hF (fun _ => rfl) (fun nL2 s9 ih hF => ?_) ?_
  dsimp only [F_impl_Stream_termsOk_L2] at hF
  refine .seq ?_
  refine .xW [] none ⟨[(10, bB (decide (s9 < (a1.length : Int)))), (0, pT 0 0), (1, vV none tyI a1), (4, bB false), (7, vV none tyI a1), (8, iI (a1.length : Int)), (9, iI s9)], [.box [.vw none tyIII a2, .vw none tyI a3, ci a4, ci a5, ci a6, .bool a7, ci a8, ci a9, ci a10, .bool a11, .vw none tyI a12, .vw none tyI a13]]⟩ [] trivial ?_ ?_
  refine .seq ?_
  rcases condE hF with ⟨he, hF⟩ | ⟨he, hF⟩
  ·
   refine .xT he ?_ ?_
   refine .skip ?_
   refine .seq ?_
   refine .block ?_
   refine .seq ?_
   obtain ⟨x12, h18, hF⟩ := bindE hF
   refine .xW [.el tyI x12] (some ([0], [0, 1, 4, 6, 7, 8, 9])) ⟨[(0, pT 0 0), (1, vV none tyI a1), (4, bB false), (6, iI x12), (7, vV none tyI a1), (8, iI (a1.length : Int)), (9, iI s9)], [.box [.vw none tyIII a2, .vw none tyI a3, ci a4, ci a5, ci a6, .bool a7, ci a8, ci a9, ci a10, .bool a11, .vw none tyI a12, .vw none tyI a13]]⟩ [at? a1 s9 = some x12] ⟨h18, trivial⟩ ?_ ?_
   refine .seq ?_
   refine .uB [0, 1, 2, 3] [4, 5] [] [] rfl trivial ?_ ?_
   obtain ⟨r13, h19, hF⟩ := bindE hF
   refine .uC false [.win 0 0 1] (S_impl_Pool_isTerm k x12 a2 r13 h19) rfl ?_ ?_
   refine .xE [] (some ([0], [0, 1, 4, 7, 8, 9, 18])) ⟨[(0, pT 0 0), (1, vV none tyI a1), (4, bB false), (7, vV none tyI a1), (8, iI (a1.length : Int)), (9, iI s9), (18, bB (!r13))], [.box [.vw none tyIII a2, .vw none tyI a3, ci a4, ci a5, ci a6, .bool a7, ci a8, ci a9, ci a10, .bool a11, .vw none tyI a12, .vw none tyI a13]]⟩ [] trivial ?_ ?_
   rcases condE hF with ⟨he, hF⟩ | ⟨he, hF⟩
   ·
    refine .xT he ?_ ?_
    refine .seq ?_
    refine .vW [] (some ([0], [0, 1, 4, 7, 8, 9])) [] trivial ?_ ?_
    cases hF
    exact .xR hE [] [0] (by kernel_rfl)
    all_goals kernel_rfl
   ·
    refine .xF he ?_ ?_
    refine .skip ?_
    refine .inBlock ?_
    refine .vW [] (some ([0], [0, 1, 4, 7, 8, 9])) [] trivial ?_ ?_
    exact .xS [.pick [0] [0, 1, 4, 7, 8, 9]] (ih (w64 (s9 + 1)) hF) (by kernel_rfl)
    all_goals kernel_rfl
   all_goals kernel_rfl
  ·
   refine .xF he ?_ ?_
   refine .exit rfl ?_
   exact .xS [.pick [0] [1, 4]] (hJJ1 () hF) (by kernel_rfl)
   all_goals kernel_rfl
  all_goals kernel_rfl
 all_goals kernel_rfl
theorem S_impl_StreamOk (k : Nat) (a1 : (List (Int × (Int × Int)))) (a2 : (List Int)) (a3 : Int) (a4 : Int) (a5 : Int) (a6 : Bool) (a7 : Int) (a8 : Int) (a9 : Int) (a10 : Bool) (a11 : (List Int)) (a12 : (List Int)) (r : Bool) (hF : F_impl_StreamOk k a1 a2 a3 a4 a5 a6 a7 a8 a9 a10 a11 a12 = some r) : Spec Tryz.prog 13 [aG [.vw none tyIII a1, .vw none tyI a2, ci a3, ci a4, ci a5, .bool a6, ci a7, ci a8, ci a9, .bool a10, .vw none tyI a11, .vw none tyI a12]] [] (bB r) [] := by
 refine Spec.of 0 32 Tryz.func13 rfl rfl (Nat.le_of_ble_eq_true rfl) rfl fun w0 S0 Z0 M0 R0 hE => ?_
 unfold F_impl_StreamOk at hF
 refine .seq ?_
 refine .xW [] (some ([0], [1, 2])) ⟨[(1, pT 0 0), (2, bB false)], [.box [.vw none tyIII a1, .vw none tyI a2, ci a3, ci a4, ci a5, .bool a6, ci a7, ci a8, ci a9, .bool a10, .vw none tyI a11, .vw none tyI a12]]⟩ [] trivial ?_ ?_
 refine .seq ?_
 refine .uB [0, 1, 2, 3] [4, 5, 6, 7, 8, 9, 10, 11, 12, 13, 14, 15, 16, 17, 18, 19, 20, 21, 22, 23, 24, 25, 26, 27, 28, 29] [] [] rfl trivial ?_ ?_
 obtain ⟨r2, h11, hF⟩ := bindE hF
 refine .uC false [] (S_impl_KnowOk k a1 a2 r2 h11) rfl ?_ ?_
 refine .uN [5] [6, 7, 8, 9, 10, 11, 12, 13, 14, 15, 16, 17, 18, 19, 20, 21, 22, 23, 24, 25, 26, 27, 28, 29] [] [] rfl trivial ?_ ?_
 rcases condE hF with ⟨he, hF⟩ | ⟨he, hF⟩
 ·
  refine WT.putB [8, 7] he ?_ ?_
  refine .uN [6, 7, 8, 9] [10, 11, 12, 13, 14, 15, 16, 17, 18, 19, 20, 21, 22, 23, 24, 25, 26, 27, 28, 29] [] [] rfl trivial ?_ ?_
  obtain ⟨r3, h10, hF⟩ := bindE hF
  refine .uC false [] (S_impl_LinkOk k a1 a3 a4 a5 a6 r3 h10) rfl ?_ ?_
  refine .uN [11, 12] [13, 14, 15, 16, 17, 18, 19, 20, 21, 22, 23, 24, 25, 26, 27, 28, 29] [] [] rfl trivial ?_ ?_
  rcases condE hF with ⟨he, hF⟩ | ⟨he, hF⟩
  ·
   refine WT.putB [15, 14, 13] he ?_ ?_
   refine .uN [13, 14, 15, 16] [17, 18, 19, 20, 21, 22, 23, 24, 25, 26, 27, 28, 29] [] [] rfl trivial ?_ ?_
   obtain ⟨r4, h9, hF⟩ := bindE hF
   refine .uC false [] (S_impl_LinkOk k a1 a7 a8 a9 a10 r4 h9) rfl ?_ ?_
   refine .uN [18, 19] [20, 21, 22, 23, 24, 25, 26, 27, 28, 29] [] [] rfl trivial ?_ ?_
   rcases condE hF with ⟨he, hF⟩ | ⟨he, hF⟩
   ·
    refine WT.putB [22, 21, 20] he ?_ ?_
    refine .uN [20, 21] [22, 23, 24, 25, 26, 27, 28, 29] [] [] rfl trivial ?_ ?_
    obtain ⟨r5, h8, hF⟩ := bindE hF
    refine .uC false [.whole 0] (S_impl_Stream_termsOk k a11 a1 a2 a3 a4 a5 a6 a7 a8 a9 a10 a11 a12 r5 h8) rfl ?_ ?_
    refine .uN [23, 24] [25, 26, 27, 28, 29] [] [] rfl trivial ?_ ?_
    rcases condE hF with ⟨he, hF⟩ | ⟨he, hF⟩
    ·
     refine WT.putB [27, 26, 25] he ?_ ?_
     refine .uN [25, 26] [27, 28, 29] [] [] rfl trivial ?_ ?_
     obtain ⟨r6, h7, hF⟩ := bindE hF
     refine .uC false [.whole 0] (S_impl_Stream_termsOk k a12 a1 a2 a3 a4 a5 a6 a7 a8 a9 a10 a11 a12 r6 h7) rfl ?_ ?_
     refine .vE [] (some ([0], [1, 2, 4])) [] trivial ?_ ?_
     cases hF
     exact .xR hE [] [] (by kernel_rfl)
     all_goals kernel_rfl
    ·
     refine WT.putB [27, 26, 25] he ?_ ?_
     refine .vE [] (some ([0], [1, 2, 4])) [] trivial ?_ ?_
     cases hF
     exact .xR hE [] [] (by kernel_rfl)
     all_goals kernel_rfl
    all_goals kernel_rfl
   ·
    refine WT.putB [22, 21, 20] he ?_ ?_
    refine .vE [] (some ([0], [1, 2, 4])) [] trivial ?_ ?_
    cases hF
    exact .xR hE [] [] (by kernel_rfl)
    all_goals kernel_rfl
   all_goals kernel_rfl
  ·
   refine WT.putB [15, 14, 13] he ?_ ?_
   refine .vE [] (some ([0], [1, 2, 4])) [] trivial ?_ ?_
   cases hF
   exact .xR hE [] [] (by kernel_rfl)
   all_goals kernel_rfl
  all_goals kernel_rfl
 ·
  refine WT.putB [8, 7] he ?_ ?_
  refine .vE [] (some ([0], [1, 2, 4])) [] trivial ?_ ?_
  cases hF
  exact .xR hE [] [] (by kernel_rfl)
  all_goals kernel_rfl
 all_goals kernel_rfl
theorem S_impl_Pool_isName (k : Nat) (a1 : Int) (a2 : Int) (a3 : (List (Int × (Int × Int)))) (r : Bool) (hF : F_impl_Pool_isName k a1 a2 a3 = some r) : Spec Tryz.prog 117 [pT 0 0, iI a1, iI a2] [.box [.vw none tyIII a3]] (bB r) [.box [.vw none tyIII a3]] := by
 refine Spec.of 1 17 Tryz.func117 rfl rfl (Nat.le_of_ble_eq_true rfl) rfl fun w0 S0 Z0 M0 R0 hE => ?_
 unfold F_impl_Pool_isName at hF
 refine .seq ?_
 refine .vW [] none [] trivial ?_ ?_
 refine .seq ?_
 obtain ⟨x1, h2, hF⟩ := bindE hF
 refine .vW [.el tyIII x1] (some ([0], [6])) [at? a3 a1 = some x1] ⟨h2, trivial⟩ ?_ ?_
 cases hF
 exact .xR hE [] [0] (by kernel_rfl)
 all_goals kernel_rfl
theorem S_impl_orEmpty (k : Nat) (a1 : (List (Int × (Int × Int)))) (r : (List (Int × (Int × Int)))) (hF : F_impl_orEmpty k a1 = some r) : Spec Tryz.prog 118 [aG [.vw none tyIII a1]] [] (aG [.sl 0]) [.row tyIII r] := by
 refine Spec.of 0 9 Tryz.func118 rfl rfl (Nat.le_of_ble_eq_true rfl) rfl fun w0 S0 Z0 M0 R0 hE => ?_
 unfold F_impl_orEmpty at hF
 refine .seq ?_
 refine .xW [] (some ([0, 1], [1, 2])) ⟨[(1, pT 0 0), (2, pT 1 0)], [.box [.vw none tyIII a1], .box [.nilsl]]⟩ [] trivial ?_ ?_
 refine .seq ?_
 refine .seq ?_
 refine .uB [0] [1, 2] [] [] rfl trivial ?_ ?_
 obtain ⟨r1, h5, hF⟩ := bindE hF
 refine .uC false [] (S_impl_PoolOk k a1 r1 h5) rfl ?_ ?_
 refine .xE [] (some ([0, 1], [1, 2, 5])) ⟨[(1, pT 0 0), (2, pT 1 0), (5, bB (!r1))], [.box [.vw none tyIII a1], .box [.nilsl]]⟩ [] trivial ?_ ?_
 rcases condE hF with ⟨he, hF⟩ | ⟨he, hF⟩
 ·
  refine .xT he ?_ ?_
  refine .seq ?_
  refine .vW [] (some ([0, 1], [1, 2])) [] trivial ?_ ?_
  cases hF
  exact .xR hE [.nrb 1 0 tyIII] [2] (by kernel_rfl)
  all_goals kernel_rfl
 ·
  refine .xF he ?_ ?_
  refine .skip ?_
  refine .seq ?_
  refine .uB [0] [1, 2] [] [] rfl trivial ?_ ?_
  obtain ⟨r3, h4, hF⟩ := bindE hF
  refine .uC false [] (S_impl_copyPool k a1 r3 h4) rfl ?_ ?_
  refine .vE [] (some ([1, 2], [2])) [] trivial ?_ ?_
  cases hF
  exact .xR hE [] [1] (by kernel_rfl)
  all_goals kernel_rfl
 all_goals kernel_rfl
theorem S_slices_Index_impl_Node_impl_Node (k : Nat) (a1 : (List (Int × (Int × Int)))) (a2 : Int) (a3 : Int) (a4 : Int) (r : Int) (hF : F_slices_Index_impl_Node_impl_Node k a1 a2 a3 a4 = some r) : Spec Tryz.prog 167 [vV none tyIII a1, aG [ci a2, ci a3, ci a4]] [] (iI r) [] := by
 refine Spec.of 0 19 Tryz.func167 rfl rfl (Nat.le_of_ble_eq_true rfl) rfl fun w0 S0 Z0 M0 R0 hE => ?_
 unfold F_slices_Index_impl_Node_impl_Node at hF
 refine .seq ?_
 refine .vW [] (some ([0], [0, 3, 4])) [] trivial ?_ ?_
 refine .seq ?_
 refine .seq ?_
 refine .xW [] (some ([0], [0, 3, 4, 7, 8])) ⟨[(0, vV none tyIII a1), (3, pT 0 0), (4, iI 0), (7, iI (a1.length : Int)), (8, iI 0)], [.box [ci a2, ci a3, ci a4]]⟩ [] trivial ?_ ?_
 refine WT.join (f := fun v17 => F_slices_Index_impl_Node_impl_Node_J1 k v17) (r := r) (S := fun v17 => ⟨[(4, iI 0)], []⟩) (fun v17 hF => ?_) (fun hJJ1 => ?_)
 ·
  unfold F_slices_Index_impl_Node_impl_Node_J1 at hF
  refine .seq ?_
  refine .vW [] none [] trivial ?_ ?_
  cases hF
  exact .xR hE [] [] (by kernel_rfl)
  all_goals kernel_rfl
 ·
  refine .block ?_
  refine WT.xL (fun s10 => ⟨[(0, vV none tyIII a1), (3, pT 0 0), (4, iI 0), (7, iI (a1.length : Int)), (8, iI s10)], [.box [ci a2, ci a3, ci a4]]⟩) (l := fun n x => F_slices_Index_impl_Node_impl_Node_L2 k a1 a2 a3 a4 (F_slices_Index_impl_Node_impl_Node_J1 k) n x) (r := r) [.pick [0] [0, 3, 4, 7, 8]] (0) k hF (fun _ => rfl) (fun nL2 s10 ih hF => ?_) ?_
  dsimp only [F_slices_Index_impl_Node_impl_Node_L2] at hF
  refine .seq ?_
  refine .xW [] none ⟨[(9, bB (decide (s10 < (a1.length : Int)))), (0, vV none tyIII a1), (3, pT 0 0), (4, iI 0), (7, iI (a1.length : Int)), (8, iI s10)], [.box [ci a2, ci a3, ci a4]]⟩ [] trivial ?_ ?_
  refine .seq ?_
  rcases condE hF with ⟨he, hF⟩ | ⟨he, hF⟩
  ·
   refine .xT he ?_ ?_
   refine .skip ?_
   refine .seq ?_
   refine .block ?_
   refine .seq ?_
   refine .xW [] (some ([0], [0, 3, 4, 5, 7, 8])) ⟨[(0, vV none tyIII a1), (3, pT 0 0), (4, iI 0), (5, iI s10), (7, iI (a1.length : Int)), (8, iI s10)], [.box [ci a2, ci a3, ci a4]]⟩ [] trivial ?_ ?_
   refine .seq ?_
   obtain ⟨x14, h15, hF⟩ := bindE hF
   refine WA.xs [.cells 0 0 3, .dep none] [] ?_ ?_
   refine WA.fin 6 [.el tyIII x14] [at? a1 s10 = some x14] (some ([0], [0, 3, 4, 5, 7, 8, 16])) ⟨[(0, vV none tyIII a1), (3, pT 0 0), (4, iI 0), (5, iI s10), (7, iI (a1.length : Int)), (8, iI s10), (16, bB (a2 == x14.1 && (a3 == x14.2.1 && (a4 == x14.2.2 && true))))], [.box [ci a2, ci a3, ci a4]]⟩ ⟨h15, trivial⟩ ?_ ?_
   rcases condE hF with ⟨he, hF⟩ | ⟨he, hF⟩
   ·
    refine .xT he ?_ ?_
    refine .seq ?_
    refine .vW [] (some ([0], [0, 3, 4, 7, 8])) [] trivial ?_ ?_
    cases hF
    exact .xR hE [] [] (by kernel_rfl)
    all_goals kernel_rfl
   ·
    refine .xF he ?_ ?_
    refine .skip ?_
    refine .inBlock ?_
    refine .vW [] (some ([0], [0, 3, 4, 7, 8])) [] trivial ?_ ?_
    exact .xS [.pick [0] [0, 3, 4, 7, 8]] (ih (w64 (s10 + 1)) hF) (by kernel_rfl)
    all_goals kernel_rfl
   all_goals kernel_rfl
  ·
   refine .xF he ?_ ?_
   refine .exit rfl ?_
   exact .xS [.pick [] [4]] (hJJ1 () hF) (by kernel_rfl)
   all_goals kernel_rfl
  all_goals kernel_rfl
 all_goals kernel_rfl
theorem S_impl_Pool_find_679a (k : Nat) (a1 : Int) (a2 : Int) (a3 : Int) (a4 : (List (Int × (Int × Int)))) (r : Int) (hF : F_impl_Pool_find_679a k a1 a2 a3 a4 = some r) : Spec Tryz.prog 153 [pT 0 0, aG [ci a1, ci a2, ci a3]] [.box [.sl 1], .row tyIII a4] (iI r) [.box [.sl 1], .row tyIII a4] := by
 refine Spec.of 2 11 Tryz.func153 rfl rfl (Nat.le_of_ble_eq_true rfl) rfl fun w0 S0 Z0 M0 R0 hE => ?_
 unfold F_impl_Pool_find_679a at hF
 refine .seq ?_
 refine .xW [] (some ([0, 1, 2], [0, 3, 4])) ⟨[(0, pT 0 0), (3, pT 2 0), (4, iI 0)], [.box [.sl 1], .row tyIII a4, .box [ci a1, ci a2, ci a3]]⟩ [] trivial ?_ ?_
 refine .seq ?_
 obtain ⟨r2, h3, hF⟩ := bindE hF
 refine WA.xs [.cells 0 0 1, .cells 2 0 3] [] ?_ ?_
 refine WA.lem (pr' := [.cells 0 0 1, .cells 2 0 3]) (fuel' := 0) (listed' := #[true, true, true, true, true, true, true]) (st' := ⟨[(4, iI r2)], [.box [.sl 1], .row tyIII a4, .box [ci a1, ci a2, ci a3]]⟩) ?_ (fun A5 => ?_)
 ·
  refine WA.xD (some ([0, 1], [4])) ⟨[(4, iI r2)], [.box [.sl 1], .row tyIII a4]⟩ ?_ ?_
  cases hF
  exact .xR hE [] [0, 1] (by kernel_rfl)
  all_goals kernel_rfl
 refine WA.lem (pr' := [.cells 0 0 1, .cells 2 0 3]) (fuel' := 2) (listed' := #[true, true, true, true, true, false, false]) (st' := ⟨[(4, iI 0), (8, sL 1), (9, aG [ci a1, ci a2, ci a3])], [.box [.sl 1], .row tyIII a4, .box [ci a1, ci a2, ci a3]]⟩) ?_ (fun A4 => ?_)
 ·
  refine WA.x1 5 (WO.uC true [] [.cells 0 0 1, .cells 2 0 3] (S_slices_Index_impl_Node_impl_Node k a4 a1 a2 a3 r2 h3) rfl ?_ ?_) ?_
  exact WA.to 1 [] [] [0, 1, 2] [4] A5 trivial (by kernel_rfl)
  all_goals kernel_rfl
 exact WA.to 5 [] [] [0, 1, 2] [4, 8, 9] A4 trivial (by kernel_rfl)
 all_goals kernel_rfl
theorem S_impl_Pool_add_20d6 (k : Nat) (a1 : Int) (a2 : Int) (a3 : Int) (a4 : (List (Int × (Int × Int)))) (r : Int × (List (Int × (Int × Int)))) (hF : F_impl_Pool_add_20d6 k a1 a2 a3 a4 = some r) : Spec Tryz.prog 129 [pT 0 0, iI a1, iI a2, iI a3] [.box [.sl 1], .row tyIII a4] (iI r.1) [.box [.sl 2], .dead, .row tyIII r.2] := by
 refine Spec.of 2 61 Tryz.func129 rfl rfl (Nat.le_of_ble_eq_true rfl) rfl fun w0 S0 Z0 M0 R0 hE => ?_
 unfold F_impl_Pool_add_20d6 at hF
 refine .seq ?_
 refine .vW [] none [] trivial ?_ ?_
 refine .seq ?_
 refine .vW [] (some ([0, 1, 2], [0, 1, 2, 3, 8, 9])) [] trivial ?_ ?_
 refine .seq ?_
 refine .seq ?_
 refine .xW [] (some ([0, 1, 2], [0, 2, 3, 8, 9, 16])) ⟨[(0, pT 0 0), (2, iI a2), (3, iI a3), (8, iI 0), (9, pT 2 0), (16, bB (a1 == 8))], [.box [.sl 1], .row tyIII a4, .box [ci a1, ci a2, ci a3]]⟩ [] trivial ?_ ?_
 refine WT.join (f := fun v2 => F_impl_Pool_add_20d6_J1 k a1 a4 v2) (r := r) (S := fun v2 => ⟨[(0, pT 0 0), (8, iI 0), (9, pT 2 0)], [.box [.sl 1], .row tyIII a4, .box [ci a1, ci v2.1, ci v2.2]]⟩) (fun v2 hF => ?_) (fun hJJ1 => ?_)
 ·
  unfold F_impl_Pool_add_20d6_J1 at hF
  refine .seq ?_
  refine .seq ?_
  obtain ⟨r4, h5, hF⟩ := bindE hF
  refine WA.xs [.cells 0 0 1, .cells 2 0 3] [] ?_ ?_
  refine WA.lem (pr' := [.cells 0 0 1, .cells 2 0 3]) (fuel' := 0) (listed' := #[true, true, true, true, true, true, true, true]) (st' := ⟨[(0, pT 0 0), (8, iI 0), (9, pT 2 0), (32, bB (!r4))], [.box [.sl 1], .row tyIII a4, .box [ci a1, ci v2.1, ci v2.2]]⟩) ?_ (fun A17 => ?_)
  ·
   refine WA.xD none ⟨[(0, pT 0 0), (8, iI 0), (9, pT 2 0), (32, bB (!r4))], [.box [.sl 1], .row tyIII a4, .box [ci a1, ci v2.1, ci v2.2]]⟩ ?_ ?_
   rcases condE hF with ⟨he, hF⟩ | ⟨he, hF⟩
   ·
    refine .xT he ?_ ?_
    refine .seq ?_
    refine .vW [] (some ([0, 1, 2], [0, 8, 9])) [] trivial ?_ ?_
    cases hF
    exact .xR hE [.mv 1] [0, 1, 3] (by kernel_rfl)
    all_goals kernel_rfl
   ·
    refine .xF he ?_ ?_
    refine .skip ?_
    refine .seq ?_
    refine .seq ?_
    refine .uB [0, 1] [2, 3] [] [] rfl trivial ?_ ?_
    obtain ⟨r7, h15, hF⟩ := bindE hF
    refine .uC false [.whole 0, .whole 1] (S_impl_Pool_find_679a k a1 v2.1 v2.2 a4 r7 h15) rfl ?_ ?_
    refine .vE [] (some ([0, 1, 2], [0, 8, 9, 10])) [] trivial ?_ ?_
    refine .seq ?_
    refine .xW [] (some ([0, 1, 2], [0, 8, 9, 10, 37])) ⟨[(0, pT 0 0), (8, iI 0), (9, pT 2 0), (10, iI r7), (37, bB (decide (r7 ≥ 0)))], [.box [.sl 1], .row tyIII a4, .box [ci a1, ci v2.1, ci v2.2]]⟩ [] trivial ?_ ?_
    rcases condE hF with ⟨he, hF⟩ | ⟨he, hF⟩
    ·
     refine .xT he ?_ ?_
     refine .seq ?_
     refine .vW [] (some ([0, 1, 2], [0, 8, 9])) [] trivial ?_ ?_
     cases hF
     exact .xR hE [.mv 1] [0, 1, 3] (by kernel_rfl)
     all_goals kernel_rfl
    ·
     refine .xF he ?_ ?_
     refine .skip ?_
     refine .seq ?_
     refine .seq ?_
     refine .xW [] (some ([0, 1, 2], [0, 8, 9, 44])) ⟨[(0, pT 0 0), (8, iI 0), (9, pT 2 0), (44, bB (decide ((a4.length : Int) ≥ 500)))], [.box [.sl 1], .row tyIII a4, .box [ci a1, ci v2.1, ci v2.2]]⟩ [] trivial ?_ ?_
     rcases condE hF with ⟨he, hF⟩ | ⟨he, hF⟩
     ·
      refine .xT he ?_ ?_
      refine .seq ?_
      refine .vW [] (some ([0, 1, 2], [0, 8, 9])) [] trivial ?_ ?_
      cases hF
      exact .xR hE [.mv 1] [0, 1, 3] (by kernel_rfl)
      all_goals kernel_rfl
     ·
      refine .xF he ?_ ?_
      refine .skip ?_
      refine .seq ?_
      obtain ⟨h11, hF⟩ := iteE hF
      refine WA.xs [.cells 2 0 3] [.cells 0 0 1, .dep (some 1)] ?_ ?_
      refine WA.lem (pr' := [.cells 2 0 3]) (fuel' := 0) (listed' := #[true, true, true, true, true, true, true, true, true, true, true]) (st' := ⟨[(0, pT 0 0), (8, iI 0)], [.box [.sl 3], .dead, .box [ci a1, ci v2.1, ci v2.2], .row tyIII (a4 ++ [(a1, (v2.1, v2.2))])]⟩) ?_ (fun A14 => ?_)
      ·
       refine WA.xD (some ([0, 1, 3], [0, 8])) ⟨[(0, pT 0 0), (8, iI 0)], [.box [.sl 2], .dead, .row tyIII (a4 ++ [(a1, (v2.1, v2.2))])]⟩ ?_ ?_
       refine .seq ?_
       refine .vW [] (some ([0, 1, 2], [8])) [] trivial ?_ ?_
       cases hF
       exact .xR hE [] [0, 1, 2] (by kernel_rfl)
       all_goals kernel_rfl
      refine WA.lem (pr' := [.cells 2 0 3]) (fuel' := 4) (listed' := #[true, true, true, true, true, true, true, false, false, false, false]) (st' := ⟨[(0, pT 0 0), (8, iI 0), (45, pT 0 0), (49, sL 1), (51, sL 3)], [.box [.sl 1], .row tyIII a4, .box [ci a1, ci v2.1, ci v2.2], .row tyIII [(a1, (v2.1, v2.2))]]⟩) ?_ (fun A13 => ?_)
      ·
       refine WA.x1 7 (WO.uO [.tmp 49, .tmp 51] false [.whole 1, .whole 3] [.cells 2 0 3] (append_rows (d := tyIII) (xs := a4) (ys := [(a1, (v2.1, v2.2))]) rfl (by kernel_rfl) h11) rfl ?_ ?_) ?_
       exact WA.to 3 [] [] [0, 1, 2, 4] [0, 8] A14 trivial (by kernel_rfl)
       all_goals kernel_rfl
      refine WA.lem (pr' := [.cells 2 0 3]) (fuel' := 6) (listed' := #[true, true, true, true, false, true, false, false, false, false, false]) (st' := ⟨[(0, pT 0 0), (8, iI 0), (45, pT 0 0), (48, pT 0 0), (50, aG [ci a1, ci v2.1, ci v2.2])], [.box [.sl 1], .row tyIII a4, .box [ci a1, ci v2.1, ci v2.2]]⟩) ?_ (fun A12 => ?_)
      ·
       refine WA.xf [4, 6] (by simp) (allW2 ?_ ?_) ?_
       ·
        refine WO.uM [] [] trivial ?_ ?_
        exact WA.to 1 [.el tyIII (0, (0, 0))] [] [0, 1, 2, 3] [0, 8, 45, 49, 51] A13 trivial (by kernel_rfl)
        all_goals kernel_rfl
       ·
        refine WO.uM [.el tyIII (0, (0, 0))] [] trivial ?_ ?_
        exact WA.to 1 [] [] [0, 1, 2, 3] [0, 8, 45, 49, 51] A13 trivial (by kernel_rfl)
        all_goals kernel_rfl
       kernel_rfl
      exact WA.to 5 [] [] [0, 1, 2] [0, 8, 45, 48, 50] A12 trivial (by kernel_rfl)
      all_goals kernel_rfl
     all_goals kernel_rfl
    all_goals kernel_rfl
   all_goals kernel_rfl
  refine WA.lem (pr' := [.cells 0 0 1, .cells 2 0 3]) (fuel' := 2) (listed' := #[true, true, true, true, true, true, false, false]) (st' := ⟨[(0, pT 0 0), (8, iI 0), (9, pT 2 0), (25, aG [ci a1, ci v2.1, ci v2.2]), (30, iI (a4.length : Int))], [.box [.sl 1], .row tyIII a4, .box [ci a1, ci v2.1, ci v2.2]]⟩) ?_ (fun A16 => ?_)
  ·
   refine WA.x1 6 (WO.uC false [] [.cells 0 0 1, .cells 2 0 3] (S_impl_nodeOk k a1 v2.1 v2.2 (a4.length : Int) r4 h5) rfl ?_ ?_) ?_
   exact WA.to 1 [] [] [0, 1, 2] [0, 8, 9, 32] A17 trivial (by kernel_rfl)
   all_goals kernel_rfl
  exact WA.to 6 [] [] [0, 1, 2] [0, 8, 9, 25, 30] A16 trivial (by kernel_rfl)
  all_goals kernel_rfl
 ·
  rcases condE hF with ⟨he, hF⟩ | ⟨he, hF⟩
  ·
   refine .xT he ?_ ?_
   refine .vW [] (some ([0, 1, 2], [0, 8, 9])) [] trivial ?_ ?_
   exact .xS [.pick [0, 1, 2] [0, 8, 9]] (hJJ1 (if a3 < a2 then a3 else a2, if a2 < a3 then a3 else a2) hF) (by kernel_rfl)
   all_goals kernel_rfl
  ·
   refine .xF he ?_ ?_
   refine .skip ?_
   exact .xS [.pick [0, 1, 2] [0, 8, 9]] (hJJ1 (a2, a3) hF) (by kernel_rfl)
   all_goals kernel_rfl
  all_goals kernel_rfl
 all_goals kernel_rfl
theorem S_impl_Pool_name_3ca5 (k : Nat) (a1 : Int) (a2 : (List (Int × (Int × Int)))) (r : Int × (List (Int × (Int × Int)))) (hF : F_impl_Pool_name_3ca5 k a1 a2 = some r) : Spec Tryz.prog 130 [pT 0 0, iI a1] [.box [.sl 1], .row tyIII a2] (iI r.1) [.box [.sl 2], .dead, .row tyIII r.2] := by
 refine Spec.of 2 8 Tryz.func130 rfl rfl (Nat.le_of_ble_eq_true rfl) rfl fun w0 S0 Z0 M0 R0 hE => ?_
 unfold F_impl_Pool_name_3ca5 at hF
 refine .seq ?_
 refine .xW [] none ⟨[(4, iI 0), (0, pT 0 0), (1, iI a1)], [.box [.sl 1], .row tyIII a2]⟩ [] trivial ?_ ?_
 refine .seq ?_
 refine .uB [0, 1] [2, 3] [] [] rfl trivial ?_ ?_
 obtain ⟨r1, h2, hF⟩ := bindE hF
 refine .uC false [.whole 0, .whole 1] (S_impl_Pool_add_20d6 k 1 a1 0 a2 r1 h2) rfl ?_ ?_
 refine .vE [] (some ([0, 1, 2], [4])) [] trivial ?_ ?_
 cases hF
 exact .xR hE [] [0, 1, 2] (by kernel_rfl)
 all_goals kernel_rfl
theorem S_impl_Link_seal_659e (k : Nat) (a1 : Int) (a2 : Int) (a3 : Int) (a4 : Int) (a5 : Bool) (a6 : (List (Int × (Int × Int)))) (r : Int × (List (Int × (Int × Int)))) (hF : F_impl_Link_seal_659e k a1 a2 a3 a4 a5 a6 = some r) : Spec Tryz.prog 119 [pT 0 0, pT 1 0, iI a1] [.box [ci a2, ci a3, ci a4, .bool a5], .box [.sl 2], .row tyIII a6] (iI r.1) [.box [ci a2, ci a3, ci a4, .bool a5], .box [.sl 3], .dead, .row tyIII r.2] := by
 refine Spec.of 3 23 Tryz.func119 rfl rfl (Nat.le_of_ble_eq_true rfl) rfl fun w0 S0 Z0 M0 R0 hE => ?_
 unfold F_impl_Link_seal_659e at hF
 refine .seq ?_
 refine .xW [] none ⟨[(6, iI 0), (0, pT 0 0), (1, pT 1 0), (2, iI a1)], [.box [ci a2, ci a3, ci a4, .bool a5], .box [.sl 2], .row tyIII a6]⟩ [] trivial ?_ ?_
 refine .seq ?_
 obtain ⟨r2, h5, hF⟩ := bindE hF
 obtain ⟨r3, h6, hF⟩ := bindE hF
 obtain ⟨r4, h7, hF⟩ := bindE hF
 refine WA.xs [.cells 0 0 1, .cells 0 2 1] [.cells 1 0 1, .dep (some 2)] ?_ ?_
 refine WA.lem (pr' := [.cells 0 0 1, .cells 0 2 1]) (fuel' := 0) (listed' := #[true, true, true, true, true, true, true, true, true, true, true, true, true, true, true, true, true]) (st' := ⟨[(6, iI r4.1)], [.box [ci a2, ci a3, ci a4, .bool a5], .box [.sl 3], .dead, .row tyIII r4.2]⟩) ?_ (fun A11 => ?_)
 ·
  refine WA.xD none ⟨[(6, iI r4.1)], [.box [ci a2, ci a3, ci a4, .bool a5], .box [.sl 3], .dead, .row tyIII r4.2]⟩ ?_ ?_
  cases hF
  exact .xR hE [] [0, 1, 2, 3] (by kernel_rfl)
  all_goals kernel_rfl
 refine WA.lem (pr' := [.cells 0 0 1, .cells 0 2 1]) (fuel' := 2) (listed' := #[true, true, true, true, true, true, true, true, true, true, true, true, true, true, true, false, false]) (st' := ⟨[(6, iI 0), (7, pT 1 0), (17, iI r3.1), (21, iI a2)], [.box [ci a2, ci a3, ci a4, .bool a5], .box [.sl 3], .dead, .row tyIII r3.2]⟩) ?_ (fun A10 => ?_)
 ·
  refine WA.x1 15 (WO.uC false [.whole 1, .whole 3] [.cells 0 0 1, .cells 0 2 1] (S_impl_Pool_add_20d6 k 3 r3.1 a2 r3.2 r4 h7) rfl ?_ ?_) ?_
  exact WA.to 1 [] [] [0, 1, 2, 4] [6] A11 trivial (by kernel_rfl)
  all_goals kernel_rfl
 refine WA.lem (pr' := [.cells 0 0 1, .cells 0 2 1]) (fuel' := 3) (listed' := #[true, true, true, true, true, true, true, true, true, true, false, true, true, true, true, false, false]) (st' := ⟨[(6, iI 0), (7, pT 1 0), (8, pT 1 0), (15, iI r2.1), (16, iI a1), (21, iI a2)], [.box [ci a2, ci a3, ci a4, .bool a5], .box [.sl 3], .dead, .row tyIII r2.2]⟩) ?_ (fun A9 => ?_)
 ·
  refine WA.x1 10 (WO.uC false [.whole 1, .whole 3] [.cells 0 0 1, .cells 0 2 1] (S_impl_Pool_add_20d6 k 2 r2.1 a1 r2.2 r3 h6) rfl ?_ ?_) ?_
  exact WA.to 0 [] [] [0, 1, 2, 4] [6, 7, 17, 21] A10 trivial (by kernel_rfl)
  all_goals kernel_rfl
 refine WA.lem (pr' := [.cells 0 0 1, .cells 0 2 1]) (fuel' := 4) (listed' := #[true, true, true, true, true, true, true, true, false, true, false, true, true, true, true, false, false]) (st' := ⟨[(6, iI 0), (7, pT 1 0), (8, pT 1 0), (9, pT 1 0), (14, iI (w64 (20 + a4))), (16, iI a1), (21, iI a2)], [.box [ci a2, ci a3, ci a4, .bool a5], .box [.sl 2], .row tyIII a6]⟩) ?_ (fun A8 => ?_)
 ·
  refine WA.x1 8 (WO.uC false [.whole 1, .whole 2] [.cells 0 0 1, .cells 0 2 1] (S_impl_Pool_name_3ca5 k (w64 (20 + a4)) a6 r2 h5) rfl ?_ ?_) ?_
  exact WA.to 0 [] [] [0, 1, 2, 3] [6, 7, 8, 15, 16, 21] A9 trivial (by kernel_rfl)
  all_goals kernel_rfl
 exact WA.to 13 [] [] [0, 1, 2] [6, 7, 8, 9, 14, 16, 21] A8 trivial (by kernel_rfl)
 all_goals kernel_rfl
theorem S_impl_LinkSend (k : Nat) (a1 : (List (Int × (Int × Int)))) (a2 : Int) (a3 : Int) (a4 : Int) (a5 : Bool) (a6 : Int) (r : Int × Int × (List (Int × (Int × Int)))) (hF : F_impl_LinkSend k a1 a2 a3 a4 a5 a6 = some r) : Spec Tryz.prog 96 [aG [.vw none tyIII a1], aG [ci a2, ci a3, ci a4, .bool a5], iI a6] [] (.tup [.agg [.sl 0], .agg [ci a2, ci a3, ci r.1, .bool a5], .c (ci r.2.1)]) [.row tyIII r.2.2] := by
 refine Spec.of 0 52 Tryz.func96 rfl rfl (Nat.le_of_ble_eq_true rfl) rfl fun w0 S0 Z0 M0 R0 hE => ?_
 unfold F_impl_LinkSend at hF
 refine .seq ?_
 refine .xW [] (some ([0, 1, 2, 3], [2, 3, 4, 6, 7, 8])) ⟨[(2, iI a6), (3, pT 0 0), (4, pT 1 0), (6, pT 2 0), (7, pT 3 0), (8, iI 0)], [.box [.vw none tyIII a1], .box [ci a2, ci a3, ci a4, .bool a5], .box [.nilsl], .box [ci 0, ci 0, ci 0, .bool false]]⟩ [] trivial ?_ ?_
 refine .seq ?_
 refine .seq ?_
 refine WT.join (f := fun v5 => F_impl_LinkSend_J1 k a1 a2 a3 a4 a5 a6 v5) (r := r) (S := fun v5 => ⟨[(2, iI a6), (3, pT 0 0), (4, pT 1 0), (6, pT 2 0), (7, pT 3 0), (8, iI 0), (32, bB v5)], [.box [.vw none tyIII a1], .box [ci a2, ci a3, ci a4, .bool a5], .box [.nilsl], .box [ci 0, ci 0, ci 0, .bool false]]⟩) (fun v5 hF => ?_) (fun hJJ1 => ?_)
 ·
  unfold F_impl_LinkSend_J1 at hF
  rcases condE hF with ⟨he, hF⟩ | ⟨he, hF⟩
  ·
   refine .xT he ?_ ?_
   refine .seq ?_
   obtain ⟨r8, h9, hF⟩ := bindE hF
   refine WA.xs [.cells 0 0 1, .cells 1 0 4] [.cells 2 0 1, .cells 3 0 4] ?_ ?_
   refine WA.lem (pr' := [.cells 0 0 1, .cells 1 0 4]) (fuel' := 0) (listed' := #[true, true, true, true, true, true]) (st' := ⟨[(2, iI a6), (3, pT 0 0), (4, pT 1 0), (6, pT 2 0), (7, pT 3 0), (8, iI (-1))], [.box [.vw none tyIII a1], .box [ci a2, ci a3, ci a4, .bool a5], .box [.sl 4], .box [ci a2, ci a3, ci a4, .bool a5], .row tyIII r8]⟩) ?_ (fun A18 => ?_)
   ·
    refine WA.xD none ⟨[(2, iI a6), (3, pT 0 0), (4, pT 1 0), (6, pT 2 0), (7, pT 3 0), (8, iI (-1))], [.box [.vw none tyIII a1], .box [ci a2, ci a3, ci a4, .bool a5], .box [.sl 4], .box [ci a2, ci a3, ci a4, .bool a5], .row tyIII r8]⟩ ?_ ?_
    cases hF
    exact .xR hE [] [4] (by kernel_rfl)
    all_goals kernel_rfl
   refine WA.lem (pr' := [.cells 0 0 1, .cells 1 0 4]) (fuel' := 4) (listed' := #[true, false, true, false, false, false]) (st' := ⟨[(2, iI a6), (3, pT 0 0), (4, pT 1 0), (6, pT 2 0), (7, pT 3 0), (8, iI 0), (33, aG [.vw none tyIII a1]), (35, aG [ci a2, ci a3, ci a4, .bool a5])], [.box [.vw none tyIII a1], .box [ci a2, ci a3, ci a4, .bool a5], .box [.nilsl], .box [ci 0, ci 0, ci 0, .bool false]]⟩) ?_ (fun A17 => ?_)
   ·
    refine WA.x1 1 (WO.uC false [] [.cells 0 0 1, .cells 1 0 4] (S_impl_orEmpty k a1 r8 h9) rfl ?_ ?_) ?_
    exact WA.to 3 [] [] [0, 1, 2, 3, 4] [2, 3, 4, 6, 7, 8] A18 trivial (by kernel_rfl)
    all_goals kernel_rfl
   exact WA.to 2 [] [] [0, 1, 2, 3] [2, 3, 4, 6, 7, 8, 33, 35] A17 trivial (by kernel_rfl)
   all_goals kernel_rfl
  ·
   refine .xF he ?_ ?_
   refine .skip ?_
   refine .seq ?_
   refine .uB [0] [1, 2, 3] [] [] rfl trivial ?_ ?_
   obtain ⟨r10, h23, hF⟩ := bindE hF
   refine .uC false [] (S_impl_copyPool k a1 r10 h23) rfl ?_ ?_
   refine .xE [] (some ([0, 1, 2, 3, 5, 4], [2, 3, 4, 6, 7, 8, 9])) ⟨[(2, iI a6), (3, pT 0 0), (4, pT 1 0), (6, pT 2 0), (7, pT 3 0), (8, iI 0), (9, pT 4 0)], [.box [.vw none tyIII a1], .box [ci a2, ci a3, ci a4, .bool a5], .box [.nilsl], .box [ci 0, ci 0, ci 0, .bool false], .box [.sl 5], .row tyIII r10]⟩ [] trivial ?_ ?_
   refine .seq ?_
   refine .uB [0] [1, 2] [] [] rfl trivial ?_ ?_
   obtain ⟨r11, h22, hF⟩ := bindE hF
   refine .uC false [.whole 1, .whole 4, .whole 5] (S_impl_Link_seal_659e k a6 a2 a3 a4 a5 r10 r11 h22) rfl ?_ ?_
   refine .vE [] (some ([0, 1, 2, 3, 4, 6], [3, 4, 6, 7, 8, 9, 10])) [] trivial ?_ ?_
   refine .seq ?_
   refine .seq ?_
   refine .xW [] (some ([0, 1, 2, 3, 4, 5], [3, 4, 6, 7, 8, 9, 10, 41])) ⟨[(3, pT 0 0), (4, pT 1 0), (6, pT 2 0), (7, pT 3 0), (8, iI 0), (9, pT 4 0), (10, iI r11.1), (41, bB (decide (r11.1 < 0)))], [.box [.vw none tyIII a1], .box [ci a2, ci a3, ci a4, .bool a5], .box [.nilsl], .box [ci 0, ci 0, ci 0, .bool false], .box [.sl 5], .row tyIII r11.2]⟩ [] trivial ?_ ?_
   rcases condE hF with ⟨he, hF⟩ | ⟨he, hF⟩
   ·
    refine .xT he ?_ ?_
    refine .seq ?_
    obtain ⟨r14, h15, hF⟩ := bindE hF
    refine WA.xs [.cells 0 0 1, .cells 1 0 4] [.cells 2 0 1, .cells 3 0 4] ?_ ?_
    refine WA.lem (pr' := [.cells 0 0 1, .cells 1 0 4]) (fuel' := 0) (listed' := #[true, true, true, true, true, true]) (st' := ⟨[(4, pT 1 0), (6, pT 2 0), (7, pT 3 0), (8, iI (-1)), (9, pT 4 0), (10, iI r11.1)], [.box [.vw none tyIII a1], .box [ci a2, ci a3, ci a4, .bool a5], .box [.sl 6], .box [ci a2, ci a3, ci a4, .bool a5], .box [.sl 5], .row tyIII r11.2, .row tyIII r14]⟩) ?_ (fun A20 => ?_)
    ·
     refine WA.xD (some ([1, 2, 3, 4, 6, 5], [4, 6, 7, 8, 9, 10])) ⟨[(4, pT 0 0), (6, pT 1 0), (7, pT 2 0), (8, iI (-1)), (9, pT 3 0), (10, iI r11.1)], [.box [ci a2, ci a3, ci a4, .bool a5], .box [.sl 4], .box [ci a2, ci a3, ci a4, .bool a5], .box [.sl 5], .row tyIII r14, .row tyIII r11.2]⟩ ?_ ?_
     cases hF
     exact .xR hE [] [4] (by kernel_rfl)
     all_goals kernel_rfl
    refine WA.lem (pr' := [.cells 0 0 1, .cells 1 0 4]) (fuel' := 4) (listed' := #[true, false, true, false, false, false]) (st' := ⟨[(4, pT 1 0), (6, pT 2 0), (7, pT 3 0), (8, iI 0), (9, pT 4 0), (10, iI r11.1), (42, aG [.vw none tyIII a1]), (44, aG [ci a2, ci a3, ci a4, .bool a5])], [.box [.vw none tyIII a1], .box [ci a2, ci a3, ci a4, .bool a5], .box [.nilsl], .box [ci 0, ci 0, ci 0, .bool false], .box [.sl 5], .row tyIII r11.2]⟩) ?_ (fun A19 => ?_)
    ·
     refine WA.x1 1 (WO.uC false [] [.cells 0 0 1, .cells 1 0 4] (S_impl_copyPool k a1 r14 h15) rfl ?_ ?_) ?_
     exact WA.to 3 [] [] [0, 1, 2, 3, 4, 5, 6] [4, 6, 7, 8, 9, 10] A20 trivial (by kernel_rfl)
     all_goals kernel_rfl
    exact WA.to 2 [] [] [0, 1, 2, 3, 4, 5] [4, 6, 7, 8, 9, 10, 42, 44] A19 trivial (by kernel_rfl)
    all_goals kernel_rfl
   ·
    refine .xF he ?_ ?_
    refine .skip ?_
    refine .seq ?_
    refine .xW [] (some ([1, 2, 3, 4, 5], [4, 6, 7, 8, 9, 10])) ⟨[(4, pT 0 0), (6, pT 1 0), (7, pT 2 0), (8, iI 0), (9, pT 3 0), (10, iI r11.1)], [.box [ci a2, ci a3, ci (w64 (a4 + 1)), .bool a5], .box [.nilsl], .box [ci 0, ci 0, ci 0, .bool false], .box [.sl 4], .row tyIII r11.2]⟩ [] trivial ?_ ?_
    refine .seq ?_
    refine WA.xs [.cells 0 0 4, .cells 3 0 1] [.cells 1 0 1, .cells 2 0 4] ?_ ?_
    refine WA.fin 6 [] [] (some ([1, 2, 4], [6, 7, 8])) ⟨[(6, pT 0 0), (7, pT 1 0), (8, iI r11.1)], [.box [.sl 2], .box [ci a2, ci a3, ci (w64 (a4 + 1)), .bool a5], .row tyIII r11.2]⟩ trivial ?_ ?_
    cases hF
    exact .xR hE [] [2] (by kernel_rfl)
    all_goals kernel_rfl
   all_goals kernel_rfl
  all_goals kernel_rfl
 ·
  refine .uB [0] [1, 2, 3, 4, 5, 6, 7, 8, 9, 10, 11, 12, 13, 14, 15, 16, 17, 18, 19, 20, 21] [] [] rfl trivial ?_ ?_
  obtain ⟨r2, h26, hF⟩ := bindE hF
  refine .uC false [.whole 0] (S_impl_Pool_isTerm k a6 a1 r2 h26) rfl ?_ ?_
  refine .uN [2, 3] [4, 5, 6, 7, 8, 9, 10, 11, 12, 13, 14, 15, 16, 17, 18, 19, 20, 21] [] [] rfl trivial ?_ ?_
  rcases condE hF with ⟨he, hF⟩ | ⟨he, hF⟩
  ·
   refine WT.putB [14, 13] he ?_ ?_
   refine .vE [] (some ([0, 1, 2, 3], [2, 3, 4, 6, 7, 8, 32])) [] trivial ?_ ?_
   exact .xS [.pick [0, 1, 2, 3] [2, 3, 4, 6, 7, 8, 32]] (hJJ1 (true) hF) (by kernel_rfl)
   all_goals kernel_rfl
  ·
   refine WT.putB [14, 13] he ?_ ?_
   refine .uN [4, 5, 6, 7] [8, 9, 10, 11, 12, 13, 14, 15, 16, 17, 18, 19, 20, 21] [] [] rfl trivial ?_ ?_
   rcases condE hF with ⟨he, hF⟩ | ⟨he, hF⟩
   ·
    refine WT.putB [18, 17, 16] he ?_ ?_
    refine .vE [] (some ([0, 1, 2, 3], [2, 3, 4, 6, 7, 8, 32])) [] trivial ?_ ?_
    exact .xS [.pick [0, 1, 2, 3] [2, 3, 4, 6, 7, 8, 32]] (hJJ1 (true) hF) (by kernel_rfl)
    all_goals kernel_rfl
   ·
    refine WT.putB [18, 17, 16] he ?_ ?_
    refine .uN [8, 9, 10, 11, 12] [13, 14, 15, 16, 17, 18, 19, 20, 21] [] [] rfl trivial ?_ ?_
    rcases condE hF with ⟨he, hF⟩ | ⟨he, hF⟩
    ·
     refine WT.putB [23, 22, 21] he ?_ ?_
     refine .vE [] (some ([0, 1, 2, 3], [2, 3, 4, 6, 7, 8, 32])) [] trivial ?_ ?_
     exact .xS [.pick [0, 1, 2, 3] [2, 3, 4, 6, 7, 8, 32]] (hJJ1 (true) hF) (by kernel_rfl)
     all_goals kernel_rfl
    ·
     refine WT.putB [23, 22, 21] he ?_ ?_
     refine .uN [13, 14] [15, 16, 17, 18, 19, 20, 21] [] [] rfl trivial ?_ ?_
     obtain ⟨r3, h25, hF⟩ := bindE hF
     refine .uC false [] (S_impl_LinkOk k a1 a2 a3 a4 a5 r3 h25) rfl ?_ ?_
     refine .uN [16, 17, 18] [19, 20, 21] [] [] rfl trivial ?_ ?_
     rcases condE hF with ⟨he, hF⟩ | ⟨he, hF⟩
     ·
      refine WT.putB [29, 28, 27] he ?_ ?_
      refine .vE [] (some ([0, 1, 2, 3], [2, 3, 4, 6, 7, 8, 32])) [] trivial ?_ ?_
      exact .xS [.pick [0, 1, 2, 3] [2, 3, 4, 6, 7, 8, 32]] (hJJ1 (true) hF) (by kernel_rfl)
      all_goals kernel_rfl
     ·
      refine WT.putB [29, 28, 27] he ?_ ?_
      refine .uN [19] [20, 21] [] [] rfl trivial ?_ ?_
      obtain ⟨r4, h24, hF⟩ := bindE hF
      refine .uC false [.whole 0] (S_impl_Pool_isName k a6 8 a1 r4 h24) rfl ?_ ?_
      refine .vE [] (some ([0, 1, 2, 3], [2, 3, 4, 6, 7, 8, 32])) [] trivial ?_ ?_
      exact .xS [.pick [0, 1, 2, 3] [2, 3, 4, 6, 7, 8, 32]] (hJJ1 (r4) hF) (by kernel_rfl)
      all_goals kernel_rfl
     all_goals kernel_rfl
    all_goals kernel_rfl
   all_goals kernel_rfl
  all_goals kernel_rfl
 all_goals kernel_rfl
theorem S_cmp_isNaN_int (k : Nat) (a1 : Int) (r : Unit) (hF : F_cmp_isNaN_int k a1 = some r) : Spec Tryz.prog 168 [iI a1] [] (bB (a1 != a1)) [] := by
 refine Spec.of 0 6 Tryz.func168 rfl rfl (Nat.le_of_ble_eq_true rfl) rfl fun w0 S0 Z0 M0 R0 hE => ?_
 unfold F_cmp_isNaN_int at hF
 refine .seq ?_
 refine .vW [] none [] trivial ?_ ?_
 refine .seq ?_
 refine .vW [] (some ([], [2])) [] trivial ?_ ?_
 cases hF
 exact .xR hE [] [] (by kernel_rfl)
 all_goals kernel_rfl
theorem S_cmp_Less_int (k : Nat) (a1 : Int) (a2 : Int) (r : Bool) (hF : F_cmp_Less_int k a1 a2 = some r) : Spec Tryz.prog 156 [iI a1, iI a2] [] (bB r) [] := by
 refine Spec.of 0 17 Tryz.func156 rfl rfl (Nat.le_of_ble_eq_true rfl) rfl fun w0 S0 Z0 M0 R0 hE => ?_
 unfold F_cmp_Less_int at hF
 refine .seq ?_
 refine .xW [] none ⟨[(4, bB false), (0, iI a1), (1, iI a2)], []⟩ [] trivial ?_ ?_
 refine .seq ?_
 refine .uB [0] [1, 2, 3, 4, 5, 6, 7, 8, 9, 10, 11, 12] [] [] rfl trivial ?_ ?_
 obtain ⟨r2, h5, hF⟩ := bindE hF
 refine .uC false [] (S_cmp_isNaN_int k a1 r2 h5) rfl ?_ ?_
 refine .uN [2] [3, 4, 5, 6, 7, 8, 9, 10, 11, 12] [] [] rfl trivial ?_ ?_
 rcases condE hF with ⟨he, hF⟩ | ⟨he, hF⟩
 ·
  refine WT.putB [7, 6] he ?_ ?_
  refine .uN [3] [4, 5, 6, 7, 8, 9, 10, 11, 12] [] [] rfl trivial ?_ ?_
  obtain ⟨r3, h4, hF⟩ := bindE hF
  refine .uC false [] (S_cmp_isNaN_int k a2 r3 h4) rfl ?_ ?_
  refine .uN [5, 6, 7] [8, 9, 10, 11, 12] [] [] rfl trivial ?_ ?_
  rcases condE hF with ⟨he, hF⟩ | ⟨he, hF⟩
  ·
   refine WT.putB [12, 11, 10] he ?_ ?_
   refine .vE [] (some ([], [4])) [] trivial ?_ ?_
   cases hF
   exact .xR hE [] [] (by kernel_rfl)
   all_goals kernel_rfl
  ·
   refine WT.putB [12, 11, 10] he ?_ ?_
   refine .vE [] (some ([], [4])) [] trivial ?_ ?_
   cases hF
   exact .xR hE [] [] (by kernel_rfl)
   all_goals kernel_rfl
  all_goals kernel_rfl
 ·
  refine WT.putB [7, 6] he ?_ ?_
  refine .vE [] (some ([], [4])) [] trivial ?_ ?_
  cases hF
  exact .xR hE [] [] (by kernel_rfl)
  all_goals kernel_rfl
 all_goals kernel_rfl
theorem S_slices_isNaN_int (k : Nat) (a1 : Int) (r : Unit) (hF : F_slices_isNaN_int k a1 = some r) : Spec Tryz.prog 157 [iI a1] [] (bB (a1 != a1)) [] := by
 refine Spec.of 0 6 Tryz.func157 rfl rfl (Nat.le_of_ble_eq_true rfl) rfl fun w0 S0 Z0 M0 R0 hE => ?_
 unfold F_slices_isNaN_int at hF
 refine .seq ?_
 refine .vW [] none [] trivial ?_ ?_
 refine .seq ?_
 refine .vW [] (some ([], [2])) [] trivial ?_ ?_
 cases hF
 exact .xR hE [] [] (by kernel_rfl)
 all_goals kernel_rfl
theorem S_slices_BinarySearch_int_int (k : Nat) (a1 : (List Int)) (a2 : Int) (r : Int × Bool) (hF : F_slices_BinarySearch_int_int k a1 a2 = some r) : Spec Tryz.prog 143 [vV none tyI a1, iI a2] [] (.tup [.c (ci r.1), .c (.bool r.2)]) [] := by
 refine Spec.of 0 54 Tryz.func143 rfl rfl (Nat.le_of_ble_eq_true rfl) rfl fun w0 S0 Z0 M0 R0 hE => ?_
 unfold F_slices_BinarySearch_int_int at hF
 refine .seq ?_
 refine .vW [] none [] trivial ?_ ?_
 refine .seq ?_
 refine .vW [] (some ([], [0, 1, 4, 5, 6])) [] trivial ?_ ?_
 refine .seq ?_
 refine .xW [] (some ([], [0, 1, 4, 5, 6, 7, 8])) ⟨[(0, vV none tyI a1), (1, iI a2), (4, iI 0), (5, bB false), (6, iI (a1.length : Int)), (7, iI 0), (8, iI (a1.length : Int))], []⟩ [] trivial ?_ ?_
 refine .seq ?_
 refine WT.join (f := fun v15 => F_slices_BinarySearch_int_int_J1 k a1 a2 v15) (r := r) (S := fun v15 => ⟨[(0, vV none tyI a1), (1, iI a2), (4, iI 0), (5, bB false), (6, iI (a1.length : Int)), (7, iI v15)], []⟩) (fun v15 hF => ?_) (fun hJJ1 => ?_)
 ·
  unfold F_slices_BinarySearch_int_int_J1 at hF
  refine .seq ?_
  refine .uB [0, 1, 2, 3, 4] [5, 6, 7, 8, 9, 10, 11, 12, 13, 14, 15, 16, 17, 18, 19, 20, 21, 22, 23, 24] [] [] rfl trivial ?_ ?_
  rcases condE hF with ⟨he, hF⟩ | ⟨he, hF⟩
  ·
   refine WT.putB [35, 34] he ?_ ?_
   obtain ⟨x17, h21, hF⟩ := bindE hF
   refine .uN [5, 6, 7, 8, 9, 10, 11] [12, 13, 14, 15, 16, 17, 18, 19, 20, 21, 22, 23, 24] [.el tyI x17] [at? a1 v15 = some x17] rfl ⟨h21, trivial⟩ ?_ ?_
   rcases condE hF with ⟨he, hF⟩ | ⟨he, hF⟩
   ·
    refine WT.putB [42, 41] he ?_ ?_
    refine .vE [] (some ([], [4, 5])) [] trivial ?_ ?_
    cases hF
    exact .xR hE [] [] (by kernel_rfl)
    all_goals kernel_rfl
   ·
    refine WT.putB [42, 41] he ?_ ?_
    obtain ⟨x18, h22, hF⟩ := bindE hF
    refine .uN [12, 13, 14, 15] [16, 17, 18, 19, 20, 21, 22, 23, 24] [.el tyI x18] [at? a1 v15 = some x18] rfl ⟨h22, trivial⟩ ?_ ?_
    obtain ⟨r19, h24, hF⟩ := bindE hF
    refine .uC false [] (S_slices_isNaN_int k x18 r19 h24) rfl ?_ ?_
    refine .uN [17] [18, 19, 20, 21, 22, 23, 24] [] [] rfl trivial ?_ ?_
    rcases condE hF with ⟨he, hF⟩ | ⟨he, hF⟩
    ·
     refine WT.putB [48, 47] he ?_ ?_
     refine .uN [18] [19, 20, 21, 22, 23, 24] [] [] rfl trivial ?_ ?_
     obtain ⟨r20, h23, hF⟩ := bindE hF
     refine .uC false [] (S_slices_isNaN_int k a2 r20 h23) rfl ?_ ?_
     refine .vE [] (some ([], [4, 5])) [] trivial ?_ ?_
     cases hF
     exact .xR hE [] [] (by kernel_rfl)
     all_goals kernel_rfl
    ·
     refine WT.putB [48, 47] he ?_ ?_
     refine .vE [] (some ([], [4, 5])) [] trivial ?_ ?_
     cases hF
     exact .xR hE [] [] (by kernel_rfl)
     all_goals kernel_rfl
    all_goals kernel_rfl
   all_goals kernel_rfl
  ·
   refine WT.putB [35, 34] he ?_ ?_
   refine .vE [] (some ([], [4, 5])) [] trivial ?_ ?_
   cases hF
   exact .xR hE [] [] (by kernel_rfl)
   all_goals kernel_rfl
  all_goals kernel_rfl
 ·
  refine .block ?_
  refine WT.xL (fun s9 => ⟨[(0, vV none tyI a1), (1, iI a2), (4, iI 0), (5, bB false), (6, iI (a1.length : Int)), (7, iI s9.1), (8, iI s9.2)], []⟩) (l := fun n x => F_slices_BinarySearch_int_int_L2 k a1 a2 (F_slices_BinarySearch_int_int_J1 k a1 a2) n x) (r := r) [.pick [] [0, 1, 4, 5, 6, 7, 8]] (0, (a1.length : Int)) k hF (fun _ => rfl) (fun nL2 s9 ih hF => ?_) ?_
  dsimp only [F_slices_BinarySearch_int_int_L2] at hF
  refine .seq ?_
  refine .seq ?_
  refine .xW [] (some ([], [0, 1, 4, 5, 6, 7, 8, 15])) ⟨[(0, vV none tyI a1), (1, iI a2), (4, iI 0), (5, bB false), (6, iI (a1.length : Int)), (7, iI s9.1), (8, iI s9.2), (15, bB (decide (s9.1 < s9.2)))], []⟩ [] trivial ?_ ?_
  rcases condE hF with ⟨he, hF⟩ | ⟨he, hF⟩
  ·
   refine .xT he ?_ ?_
   refine .skip ?_
   refine .block ?_
   refine .seq ?_
   refine .xW [] (some ([], [0, 1, 4, 5, 6, 7, 8, 9])) ⟨[(0, vV none tyI a1), (1, iI a2), (4, iI 0), (5, bB false), (6, iI (a1.length : Int)), (7, iI s9.1), (8, iI s9.2), (9, iI (IntKind.i64.wrap (Int.fdiv (IntKind.u64.wrap (w64 (s9.1 + s9.2))) 2)))], []⟩ [] trivial ?_ ?_
   refine .seq ?_
   obtain ⟨x12, h27, hF⟩ := bindE hF
   refine .uB [0, 1, 2, 3, 4] [5] [.el tyI x12] [at? a1 (IntKind.i64.wrap (Int.fdiv (IntKind.u64.wrap (w64 (s9.1 + s9.2))) 2)) = some x12] rfl ⟨h27, trivial⟩ ?_ ?_
   obtain ⟨r13, h28, hF⟩ := bindE hF
   refine .uC false [] (S_cmp_Less_int k x12 a2 r13 h28) rfl ?_ ?_
   refine .xE [] (some ([], [0, 1, 4, 5, 6, 7, 8, 9, 27])) ⟨[(0, vV none tyI a1), (1, iI a2), (4, iI 0), (5, bB false), (6, iI (a1.length : Int)), (7, iI s9.1), (8, iI s9.2), (9, iI (IntKind.i64.wrap (Int.fdiv (IntKind.u64.wrap (w64 (s9.1 + s9.2))) 2))), (27, bB r13)], []⟩ [] trivial ?_ ?_
   rcases condE hF with ⟨he, hF⟩ | ⟨he, hF⟩
   ·
    refine .xT he ?_ ?_
    refine .vW [] (some ([], [0, 1, 4, 5, 6, 7, 8])) [] trivial ?_ ?_
    refine .inBlock ?_
    exact .xS [.pick [] [0, 1, 4, 5, 6, 7, 8]] (ih (w64 ((IntKind.i64.wrap (Int.fdiv (IntKind.u64.wrap (w64 (s9.1 + s9.2))) 2)) + 1), s9.2) hF) (by kernel_rfl)
    all_goals kernel_rfl
   ·
    refine .xF he ?_ ?_
    refine .vW [] (some ([], [0, 1, 4, 5, 6, 7, 8])) [] trivial ?_ ?_
    refine .inBlock ?_
    exact .xS [.pick [] [0, 1, 4, 5, 6, 7, 8]] (ih (s9.1, IntKind.i64.wrap (Int.fdiv (IntKind.u64.wrap (w64 (s9.1 + s9.2))) 2)) hF) (by kernel_rfl)
    all_goals kernel_rfl
   all_goals kernel_rfl
  ·
   refine .xF he ?_ ?_
   refine .exit rfl ?_
   exact .xS [.pick [] [0, 1, 4, 5, 6, 7]] (hJJ1 (s9.1) hF) (by kernel_rfl)
   all_goals kernel_rfl
  all_goals kernel_rfl
 all_goals kernel_rfl
theorem S_slices_Insert_int (k : Nat) (a1 : Int) (a2 a3 r : List Int) (hF : F_slices_Insert_int k a1 a2 a3 = some r) : Spec Tryz.prog 144 [sL 0, iI a1, sL 1] [.row (.int .i64) a2, .row (.int .i64) a3] (sL 2) [.dead, .row (.int .i64) a3, .row (.int .i64) r] :=
  Spec.insert (fun w xs ys p q i => ins_calls Tryz.laysI21 w xs ys p q i) k a1 a2 a3 r hF
theorem S_impl_knowPut_f72a (k : Nat) (a1 : Int) (a2 : (List Int)) (r : Bool × (List Int)) (hF : F_impl_knowPut_f72a k a1 a2 = some r) : Spec Tryz.prog 120 [sL 0, iI a1] [.row tyI a2] (.tup [.c (.sl 1), .c (.bool r.1)]) [.dead, .row tyI r.2] := by
 refine Spec.of 1 25 Tryz.func120 rfl rfl (Nat.le_of_ble_eq_true rfl) rfl fun w0 S0 Z0 M0 R0 hE => ?_
 unfold F_impl_knowPut_f72a at hF
 refine .seq ?_
 refine .xW [] none ⟨[(5, bB false), (4, .p (.c (.nilsl))), (0, sL 0), (1, iI a1)], [.row tyI a2]⟩ [] trivial ?_ ?_
 refine .seq ?_
 refine .uB [0, 1] [2, 3, 4, 5, 6, 7] [] [] rfl trivial ?_ ?_
 obtain ⟨r1, h6, hF⟩ := bindE hF
 refine .uC true [] (S_slices_BinarySearch_int_int k a2 a1 r1 h6) rfl ?_ ?_
 refine .vE [] (some ([0], [0, 1, 4, 5, 6, 7])) [] trivial ?_ ?_
 refine .seq ?_
 refine .seq ?_
 refine .xW [] (some ([0], [0, 1, 4, 5, 6, 14])) ⟨[(0, sL 0), (1, iI a1), (4, .p (.c (.nilsl))), (5, bB false), (6, iI r1.1), (14, bB r1.2)], [.row tyI a2]⟩ [] trivial ?_ ?_
 rcases condE hF with ⟨he, hF⟩ | ⟨he, hF⟩
 ·
  refine .xT he ?_ ?_
  refine .seq ?_
  refine .vW [] (some ([0], [0, 1, 4, 5, 6])) [] trivial ?_ ?_
  cases hF
  exact .xR hE [.mv 0] [0, 1] (by kernel_rfl)
  all_goals kernel_rfl
 ·
  refine .xF he ?_ ?_
  refine .skip ?_
  refine .seq ?_
  refine .seq ?_
  refine .xW [] (some ([0], [0, 1, 4, 5, 6, 18])) ⟨[(0, sL 0), (1, iI a1), (4, .p (.c (.nilsl))), (5, bB false), (6, iI r1.1), (18, bB (decide ((a2.length : Int) ≥ 200)))], [.row tyI a2]⟩ [] trivial ?_ ?_
  rcases condE hF with ⟨he, hF⟩ | ⟨he, hF⟩
  ·
   refine .xT he ?_ ?_
   refine .seq ?_
   refine .vW [] (some ([0], [0, 1, 4, 5, 6])) [] trivial ?_ ?_
   cases hF
   exact .xR hE [.mv 0] [0, 1] (by kernel_rfl)
   all_goals kernel_rfl
  ·
   refine .xF he ?_ ?_
   refine .skip ?_
   refine .seq ?_
   refine .uB [0, 1, 2, 3] [4, 5, 6] [.el tyI 0] [] rfl trivial ?_ ?_
   obtain ⟨r4, h5, hF⟩ := bindE hF
   refine .uC false [.whole 0, .whole 1] (S_slices_Insert_int k r1.1 a2 [a1] r4 h5) rfl ?_ ?_
   refine .vE [] (some ([0, 2], [4, 5])) [] trivial ?_ ?_
   cases hF
   exact .xR hE [] [0, 1] (by kernel_rfl)
   all_goals kernel_rfl
  all_goals kernel_rfl
 all_goals kernel_rfl
theorem S_impl_Stream_heard_65c4 (k : Nat) (a1 : Int) (a2 : Int) (a3 : Int) (a4 : Int) (a5 : Bool) (a6 : Int) (a7 : Int) (a8 : Int) (a9 : Bool) (a10 : (List (Int × (Int × Int)))) (a11 : (List Int)) (a12 : (List Int)) (a13 : (List Int)) (r : Bool × (List Int)) (hF : F_impl_Stream_heard_65c4 k a1 a2 a3 a4 a5 a6 a7 a8 a9 a10 a11 a12 a13 = some r) : Spec Tryz.prog 97 [pT 0 0, iI a1] [.box [.sl 1, .sl 2, ci a2, ci a3, ci a4, .bool a5, ci a6, ci a7, ci a8, .bool a9, .sl 3, .sl 4], .row tyIII a10, .row tyI a11, .row tyI a12, .row tyI a13] (bB r.1) [.box [.sl 1, .sl 5, ci a2, ci a3, ci a4, .bool a5, ci a6, ci a7, ci a8, .bool a9, .sl 3, .sl 4], .row tyIII a10, .dead, .row tyI a12, .row tyI a13, .row tyI r.2] := by
 refine Spec.of 5 23 Tryz.func97 rfl rfl (Nat.le_of_ble_eq_true rfl) rfl fun w0 S0 Z0 M0 R0 hE => ?_
 unfold F_impl_Stream_heard_65c4 at hF
 refine .seq ?_
 refine .vW [] none [] trivial ?_ ?_
 refine .seq ?_
 refine .seq ?_
 refine .xW [] (some ([0, 1, 2, 3, 4], [0, 1, 4, 8])) ⟨[(0, pT 0 0), (1, iI a1), (4, bB false), (8, bB (decide (a1 < 0)))], [.box [.sl 1, .sl 2, ci a2, ci a3, ci a4, .bool a5, ci a6, ci a7, ci a8, .bool a9, .sl 3, .sl 4], .row tyIII a10, .row tyI a11, .row tyI a12, .row tyI a13]⟩ [] trivial ?_ ?_
 rcases condE hF with ⟨he, hF⟩ | ⟨he, hF⟩
 ·
  refine .xT he ?_ ?_
  refine .seq ?_
  refine .vW [] (some ([0, 1, 2, 3, 4], [0, 1, 4])) [] trivial ?_ ?_
  cases hF
  exact .xR hE [.mv 2] [0, 1, 2, 3, 4, 5] (by kernel_rfl)
  all_goals kernel_rfl
 ·
  refine .xF he ?_ ?_
  refine .skip ?_
  refine .seq ?_
  refine .uB [0, 1, 2, 3, 4] [5, 6, 7, 8, 9, 10] [] [] rfl trivial ?_ ?_
  obtain ⟨r2, h3, hF⟩ := bindE hF
  refine .uC false [.whole 2] (S_impl_knowPut_f72a k a1 a11 r2 h3) rfl ?_ ?_
  refine .vE [] (some ([0, 1, 2, 3, 4, 5], [0, 4, 5, 6])) [] trivial ?_ ?_
  refine .seq ?_
  refine .vW [] (some ([0, 1, 2, 3, 4, 5], [4, 6])) [] trivial ?_ ?_
  refine .seq ?_
  refine .vW [] (some ([0, 1, 2, 3, 4, 5], [4])) [] trivial ?_ ?_
  cases hF
  exact .xR hE [] [0, 1, 2, 3, 4, 5] (by kernel_rfl)
  all_goals kernel_rfl
 all_goals kernel_rfl
end Go.Proofs.YtmbbapeiikifgaaGreatDoor
