/- The functions do what they compute. -/
import Derived.Test.YtmbbapeiikifgaaGreatDoorSlVu
import Derived.Test.YtmbbapeiikifgaaGreatDoorSlLj
import Derived.Test.YtmbbapeiikifgaaGreatDoorShX
import Derived.Test.YtmbbapeiikifgaaGreatDoorProg
import Derived.Test.YtmbbapeiikifgaaGreatDoorPgF
import Derived.KernelRfl
import Derived.Test.YtmbbapeiikifgaaGreatDoorPgS1
set_option maxRecDepth 100000
set_option linter.all false
namespace Go.Proofs.YtmbbapeiikifgaaGreatDoor
open Go Go.Shelf
theorem S_impl_Stream_send_65c4 (k : Nat) (a1 : Int) (a2 : Int) (a3 : Int) (a4 : Int) (a5 : Bool) (a6 : Int) (a7 : Int) (a8 : Int) (a9 : Bool) (a10 : (List (Int × (Int × Int)))) (a11 : (List Int)) (a12 : (List Int)) (a13 : (List Int)) (r : Bool × Int × (List (Int × (Int × Int))) × (List Int) × (List Int)) (hF : F_impl_Stream_send_65c4 k a1 a2 a3 a4 a5 a6 a7 a8 a9 a10 a11 a12 a13 = some r) : Spec Tryz.prog 68 [pT 0 0, iI a1] [.box [.sl 1, .sl 2, ci a2, ci a3, ci a4, .bool a5, ci a6, ci a7, ci a8, .bool a9, .sl 3, .sl 4], .row tyIII a10, .row tyI a11, .row tyI a12, .row tyI a13] (bB r.1) [.box [.sl 5, .sl 6, ci a2, ci a3, ci r.2.1, .bool a5, ci a6, ci a7, ci a8, .bool a9, .sl 7, .sl 4], .row tyIII a10, .dead, .dead, .row tyI a13, .row tyIII r.2.2.1, .row tyI r.2.2.2.1, .row tyI r.2.2.2.2] := by
 refine Spec.of 5 44 Tryz.func68 rfl rfl (Nat.le_of_ble_eq_true rfl) rfl fun w0 S0 Z0 M0 R0 hE => ?_
 unfold F_impl_Stream_send_65c4 at hF
 refine .seq ?_
 refine .xW [] none ⟨[(4, bB false), (0, pT 0 0), (1, iI a1)], [.box [.sl 1, .sl 2, ci a2, ci a3, ci a4, .bool a5, ci a6, ci a7, ci a8, .bool a9, .sl 3, .sl 4], .row tyIII a10, .row tyI a11, .row tyI a12, .row tyI a13]⟩ [] trivial ?_ ?_
 refine .seq ?_
 obtain ⟨r2, h3, hF⟩ := bindE hF
 refine WA.xs [.cells 0 0 1, .cells 0 2 4] [] ?_ ?_
 refine WA.lem (pr' := [.cells 0 0 1, .cells 0 2 4]) (fuel' := 0) (listed' := #[true, true, true, true, true, true, true, true, true, true, true, true, true, true, true, true, true, true, true]) (st' := ⟨[(0, pT 0 0), (1, iI a1), (4, bB false), (5, pT 5 0), (6, pT 6 0), (7, iI r2.2.1)], [.box [.sl 1, .sl 2, ci a2, ci a3, ci a4, .bool a5, ci a6, ci a7, ci a8, .bool a9, .sl 3, .sl 4], .row tyIII a10, .row tyI a11, .row tyI a12, .row tyI a13, .box [.sl 7], .box [ci a2, ci a3, ci r2.1, .bool a5], .row tyIII r2.2.2]⟩) ?_ (fun A14 => ?_)
 ·
  refine WA.xD none ⟨[(0, pT 0 0), (1, iI a1), (4, bB false), (5, pT 5 0), (6, pT 6 0), (7, iI r2.2.1)], [.box [.sl 1, .sl 2, ci a2, ci a3, ci a4, .bool a5, ci a6, ci a7, ci a8, .bool a9, .sl 3, .sl 4], .row tyIII a10, .row tyI a11, .row tyI a12, .row tyI a13, .box [.sl 7], .box [ci a2, ci a3, ci r2.1, .bool a5], .row tyIII r2.2.2]⟩ ?_ ?_
  refine .seq ?_
  refine WA.xs [.cells 5 0 1, .cells 6 0 4] [.cells 0 0 1, .cells 0 2 4] ?_ ?_
  refine WA.fin 10 [] [] (some ([0, 1, 2, 3, 4, 7], [0, 1, 4, 7])) ⟨[(0, pT 0 0), (1, iI a1), (4, bB false), (7, iI r2.2.1)], [.box [.sl 5, .sl 2, ci a2, ci a3, ci r2.1, .bool a5, ci a6, ci a7, ci a8, .bool a9, .sl 3, .sl 4], .row tyIII a10, .row tyI a11, .row tyI a12, .row tyI a13, .row tyIII r2.2.2]⟩ trivial ?_ ?_
  refine .seq ?_
  refine .seq ?_
  refine .uB [0, 1] [2, 3] [] [] rfl trivial ?_ ?_
  obtain ⟨r5, h8, hF⟩ := bindE hF
  refine .uC false [.whole 0, .whole 5, .whole 2, .whole 3, .whole 4] (S_impl_Stream_heard_65c4 k r2.2.1 a2 a3 r2.1 a5 a6 a7 a8 a9 r2.2.2 a11 a12 a13 r5 h8) rfl ?_ ?_
  refine .xE [] (some ([0, 1, 2, 3, 4, 5, 6], [0, 1, 4, 33])) ⟨[(0, pT 0 0), (1, iI a1), (4, bB false), (33, bB (!r5.1))], [.box [.sl 5, .sl 6, ci a2, ci a3, ci r2.1, .bool a5, ci a6, ci a7, ci a8, .bool a9, .sl 3, .sl 4], .row tyIII a10, .dead, .row tyI a12, .row tyI a13, .row tyIII r2.2.2, .row tyI r5.2]⟩ [] trivial ?_ ?_
  rcases condE hF with ⟨he, hF⟩ | ⟨he, hF⟩
  ·
   refine .xT he ?_ ?_
   refine .seq ?_
   refine .vW [] (some ([0, 1, 2, 3, 4, 5, 6], [0, 1, 4])) [] trivial ?_ ?_
   cases hF
   exact .xR hE [.mv 3] [0, 1, 2, 3, 4, 5, 6, 7] (by kernel_rfl)
   all_goals kernel_rfl
  ·
   refine .xF he ?_ ?_
   refine .skip ?_
   refine .seq ?_
   refine .uB [0, 1, 2, 3, 4, 5, 6] [7, 8, 9, 10] [.el tyI 0] [] rfl trivial ?_ ?_
   obtain ⟨h7, hF⟩ := iteE hF
   refine .uO [.tmp 38, .tmp 40] false [.whole 3, .whole 7] (append_rows (d := tyI) (xs := a12) (ys := [a1]) rfl (by kernel_rfl) h7) rfl ?_ ?_
   refine .vE [] (some ([0, 1, 2, 3, 4, 5, 6, 8], [4])) [] trivial ?_ ?_
   refine .seq ?_
   refine .vW [] none [] trivial ?_ ?_
   cases hF
   exact .xR hE [] [0, 1, 2, 3, 4, 5, 6, 7] (by kernel_rfl)
   all_goals kernel_rfl
  all_goals kernel_rfl
 refine WA.lem (pr' := [.cells 0 0 1, .cells 0 2 4]) (fuel' := 5) (listed' := #[true, true, true, true, true, true, true, true, true, true, true, true, true, true, false, false, false, false, false]) (st' := ⟨[(0, pT 0 0), (1, iI a1), (4, bB false), (19, aG [.sl 5]), (20, aG [ci a2, ci a3, ci r2.1, .bool a5]), (21, iI r2.2.1)], [.box [.sl 1, .sl 2, ci a2, ci a3, ci a4, .bool a5, ci a6, ci a7, ci a8, .bool a9, .sl 3, .sl 4], .row tyIII a10, .row tyI a11, .row tyI a12, .row tyI a13, .row tyIII r2.2.2]⟩) ?_ (fun A11 => ?_)
 ·
  refine WA.xf [14, 15] (by simp) (allW2 ?_ ?_) ?_
  ·
   refine WO.uM [] [] trivial ?_ ?_
   exact WA.to 4 [] [] [0, 1, 2, 3, 4, 6, 7, 5] [0, 1, 4, 5, 6, 7] A14 trivial (by kernel_rfl)
   all_goals kernel_rfl
  ·
   refine WO.uM [] [] trivial ?_ ?_
   exact WA.to 4 [] [] [0, 1, 2, 3, 4, 7, 6, 5] [0, 1, 4, 5, 6, 7] A14 trivial (by kernel_rfl)
   all_goals kernel_rfl
  kernel_rfl
 refine WA.lem (pr' := [.cells 0 0 1, .cells 0 2 4]) (fuel' := 8) (listed' := #[true, true, true, true, true, true, true, true, true, false, false, false, false, false, true, true, false, false, false]) (st' := ⟨[(0, pT 0 0), (1, iI a1), (4, bB false), (5, pT 5 0), (6, pT 6 0), (12, aG [.sl 1]), (16, aG [ci a2, ci a3, ci a4, .bool a5]), (17, iI a1)], [.box [.sl 1, .sl 2, ci a2, ci a3, ci a4, .bool a5, ci a6, ci a7, ci a8, .bool a9, .sl 3, .sl 4], .row tyIII a10, .row tyI a11, .row tyI a12, .row tyI a13, .box [.nilsl], .box [ci 0, ci 0, ci 0, .bool false]]⟩) ?_ (fun A15 => ?_)
 ·
  refine WA.x1 9 (WO.uC true [] [.cells 0 0 1, .cells 0 2 4] (S_impl_LinkSend k a10 a2 a3 a4 a5 a1 r2 h3) rfl ?_ ?_) ?_
  exact WA.to 7 [] [] [0, 1, 2, 3, 4, 5, 6, 7] [0, 1, 4, 5, 6, 7] A14 trivial (by kernel_rfl)
  all_goals kernel_rfl
 refine WA.lem (pr' := [.cells 0 0 1, .cells 0 2 4]) (fuel' := 9) (listed' := #[true, true, true, true, true, true, true, true, true, false, false, false, false, false, true, false, false, false, false]) (st' := ⟨[(0, pT 0 0), (1, iI a1), (4, bB false), (5, pT 5 0), (12, aG [.sl 1]), (16, aG [ci a2, ci a3, ci a4, .bool a5]), (17, iI a1)], [.box [.sl 1, .sl 2, ci a2, ci a3, ci a4, .bool a5, ci a6, ci a7, ci a8, .bool a9, .sl 3, .sl 4], .row tyIII a10, .row tyI a11, .row tyI a12, .row tyI a13, .box [.nilsl]]⟩) ?_ (fun A12 => ?_)
 ·
  refine WA.xf [9, 15] (by simp) (allW2 ?_ ?_) ?_
  ·
   refine WO.uC true [] [.cells 0 0 1, .cells 0 2 4] (S_impl_LinkSend k a10 a2 a3 a4 a5 a1 r2 h3) rfl ?_ ?_
   exact WA.to 8 [] [] [0, 1, 2, 3, 4, 5, 7, 6] [0, 1, 4, 5, 6, 7] A14 trivial (by kernel_rfl)
   all_goals kernel_rfl
  ·
   refine WO.uM [] [] trivial ?_ ?_
   exact WA.to 0 [] [] [0, 1, 2, 3, 4, 5, 6] [0, 1, 4, 5, 6, 12, 16, 17] A15 trivial (by kernel_rfl)
   all_goals kernel_rfl
  kernel_rfl
 refine WA.lem (pr' := [.cells 0 0 1, .cells 0 2 4]) (fuel' := 9) (listed' := #[true, true, true, true, true, true, true, true, true, false, false, false, false, false, false, true, false, false, false]) (st' := ⟨[(0, pT 0 0), (1, iI a1), (4, bB false), (6, pT 5 0), (12, aG [.sl 1]), (16, aG [ci a2, ci a3, ci a4, .bool a5]), (17, iI a1)], [.box [.sl 1, .sl 2, ci a2, ci a3, ci a4, .bool a5, ci a6, ci a7, ci a8, .bool a9, .sl 3, .sl 4], .row tyIII a10, .row tyI a11, .row tyI a12, .row tyI a13, .box [ci 0, ci 0, ci 0, .bool false]]⟩) ?_ (fun A13 => ?_)
 ·
  refine WA.xf [9, 14] (by simp) (allW2 ?_ ?_) ?_
  ·
   refine WO.uC true [] [.cells 0 0 1, .cells 0 2 4] (S_impl_LinkSend k a10 a2 a3 a4 a5 a1 r2 h3) rfl ?_ ?_
   exact WA.to 8 [] [] [0, 1, 2, 3, 4, 7, 5, 6] [0, 1, 4, 5, 6, 7] A14 trivial (by kernel_rfl)
   all_goals kernel_rfl
  ·
   refine WO.uM [] [] trivial ?_ ?_
   exact WA.to 0 [] [] [0, 1, 2, 3, 4, 6, 5] [0, 1, 4, 5, 6, 12, 16, 17] A15 trivial (by kernel_rfl)
   all_goals kernel_rfl
  kernel_rfl
 refine WA.lem (pr' := [.cells 0 0 1, .cells 0 2 4]) (fuel' := 10) (listed' := #[true, true, true, true, true, true, true, true, true, false, false, false, false, false, false, false, false, false, false]) (st' := ⟨[(0, pT 0 0), (1, iI a1), (4, bB false), (12, aG [.sl 1]), (16, aG [ci a2, ci a3, ci a4, .bool a5]), (17, iI a1)], [.box [.sl 1, .sl 2, ci a2, ci a3, ci a4, .bool a5, ci a6, ci a7, ci a8, .bool a9, .sl 3, .sl 4], .row tyIII a10, .row tyI a11, .row tyI a12, .row tyI a13]⟩) ?_ (fun A10 => ?_)
 ·
  refine WA.xf [9, 14, 15] (by simp) (allW3 ?_ ?_ ?_) ?_
  ·
   refine WO.uC true [] [.cells 0 0 1, .cells 0 2 4] (S_impl_LinkSend k a10 a2 a3 a4 a5 a1 r2 h3) rfl ?_ ?_
   exact WA.to 4 [] [] [0, 1, 2, 3, 4, 5] [0, 1, 4, 19, 20, 21] A11 trivial (by kernel_rfl)
   all_goals kernel_rfl
  ·
   refine WO.uM [] [] trivial ?_ ?_
   exact WA.to 0 [] [] [0, 1, 2, 3, 4, 5] [0, 1, 4, 5, 12, 16, 17] A12 trivial (by kernel_rfl)
   all_goals kernel_rfl
  ·
   refine WO.uM [] [] trivial ?_ ?_
   exact WA.to 0 [] [] [0, 1, 2, 3, 4, 5] [0, 1, 4, 6, 12, 16, 17] A13 trivial (by kernel_rfl)
   all_goals kernel_rfl
  kernel_rfl
 exact WA.to 9 [] [] [0, 1, 2, 3, 4] [0, 1, 4, 12, 16, 17] A10 trivial (by kernel_rfl)
 all_goals kernel_rfl
theorem S_impl_reader_fail_8d05 (k : Nat) (a1 : Int) (a2 : Int) (a3 : ByteArray) (a4 : Int) (a5 : Int) (a6 : ByteArray) (a7 : (List Int)) (a8 : (List (Int × (Int × Int)))) (r : Int × Int) (hF : F_impl_reader_fail_8d05 k a1 a2 a3 a4 a5 a6 a7 a8 = some r) : Spec Tryz.prog 146 [pT 0 0, iI a1, iI a2] [.box [.str a3, ci a4, ci a5, .str a6, .fn 121 [(1, 0), (2, 0)], .fn 124 [(2, 0)]], .box [.vw none tyI a7], .box [.sl 3], .row tyIII a8] (iI (-1)) [.box [.str a3, ci r.1, ci r.2, .str a6, .fn 121 [(1, 0), (2, 0)], .fn 124 [(2, 0)]], .box [.vw none tyI a7], .box [.sl 3], .row tyIII a8] := by
 refine Spec.of 4 20 Tryz.func146 rfl rfl (Nat.le_of_ble_eq_true rfl) rfl fun w0 S0 Z0 M0 R0 hE => ?_
 unfold F_impl_reader_fail_8d05 at hF
 refine .seq ?_
 refine .vW [] none [] trivial ?_ ?_
 refine .seq ?_
 refine .seq ?_
 refine .xW [] (some ([0, 1, 2, 3], [0, 1, 2, 6, 11])) ⟨[(0, pT 0 0), (1, iI a1), (2, iI a2), (6, iI 0), (11, bB (a5 == 0))], [.box [.str a3, ci a4, ci a5, .str a6, .fn 121 [(1, 0), (2, 0)], .fn 124 [(2, 0)]], .box [.vw none tyI a7], .box [.sl 3], .row tyIII a8]⟩ [] trivial ?_ ?_
 refine WT.join (f := fun v2 => F_impl_reader_fail_8d05_J1 k v2) (r := r) (S := fun v2 => ⟨[(6, iI 0)], [.box [.str a3, ci v2.1, ci v2.2, .str a6, .fn 121 [(1, 0), (2, 0)], .fn 124 [(2, 0)]], .box [.vw none tyI a7], .box [.sl 3], .row tyIII a8]⟩) (fun v2 hF => ?_) (fun hJJ1 => ?_)
 ·
  unfold F_impl_reader_fail_8d05_J1 at hF
  refine .seq ?_
  refine .vW [] none [] trivial ?_ ?_
  cases hF
  exact .xR hE [] [0, 1, 2, 3] (by kernel_rfl)
  all_goals kernel_rfl
 ·
  rcases condE hF with ⟨he, hF⟩ | ⟨he, hF⟩
  ·
   refine .xT he ?_ ?_
   refine .vW [] (some ([0, 1, 2, 3], [6])) [] trivial ?_ ?_
   exact .xS [.pick [0, 1, 2, 3] [6]] (hJJ1 (a2, a1) hF) (by kernel_rfl)
   all_goals kernel_rfl
  ·
   refine .xF he ?_ ?_
   refine .skip ?_
   exact .xS [.pick [0, 1, 2, 3] [6]] (hJJ1 (a4, a5) hF) (by kernel_rfl)
   all_goals kernel_rfl
  all_goals kernel_rfl
 all_goals kernel_rfl
theorem S_impl_reader_peek_0f1e (k : Nat) (a1 : ByteArray) (a2 : Int) (a3 : Int) (a4 : ByteArray) (a5 : (List Int)) (a6 : (List (Int × (Int × Int)))) (r : Int) (hF : F_impl_reader_peek_0f1e k a1 a2 a3 a4 a5 a6 = some r) : Spec Tryz.prog 161 [pT 0 0] [.box [.str a1, ci a2, ci a3, .str a4, .fn 121 [(1, 0), (2, 0)], .fn 124 [(2, 0)]], .box [.vw none tyI a5], .box [.sl 3], .row tyIII a6] (.p (.c (.int .u8 r))) [.box [.str a1, ci a2, ci a3, .str a4, .fn 121 [(1, 0), (2, 0)], .fn 124 [(2, 0)]], .box [.vw none tyI a5], .box [.sl 3], .row tyIII a6] := by
 refine Spec.of 4 22 Tryz.func161 rfl rfl (Nat.le_of_ble_eq_true rfl) rfl fun w0 S0 Z0 M0 R0 hE => ?_
 unfold F_impl_reader_peek_0f1e at hF
 refine .seq ?_
 refine .xW [] none ⟨[(2, .p (.c (.int .u8 0))), (0, pT 0 0)], [.box [.str a1, ci a2, ci a3, .str a4, .fn 121 [(1, 0), (2, 0)], .fn 124 [(2, 0)]], .box [.vw none tyI a5], .box [.sl 3], .row tyIII a6]⟩ [] trivial ?_ ?_
 refine .seq ?_
 refine .seq ?_
 refine WA.xs [.cells 0 0 1, .cells 0 1 1] [] ?_ ?_
 refine WA.fin 10 [] [] (some ([0, 1, 2, 3], [0, 2, 12])) ⟨[(0, pT 0 0), (2, .p (.c (.int .u8 0))), (12, bB (decide (a2 ≥ (a1.size : Int))))], [.box [.str a1, ci a2, ci a3, .str a4, .fn 121 [(1, 0), (2, 0)], .fn 124 [(2, 0)]], .box [.vw none tyI a5], .box [.sl 3], .row tyIII a6]⟩ trivial ?_ ?_
 rcases condE hF with ⟨he, hF⟩ | ⟨he, hF⟩
 ·
  refine .xT he ?_ ?_
  refine .seq ?_
  refine .vW [] (some ([0, 1, 2, 3], [0, 2])) [] trivial ?_ ?_
  cases hF
  exact .xR hE [] [0, 1, 2, 3] (by kernel_rfl)
  all_goals kernel_rfl
 ·
  refine .xF he ?_ ?_
  refine .skip ?_
  refine .seq ?_
  obtain ⟨h4, hF⟩ := iteE hF
  refine WA.xs [.cells 0 0 1, .cells 0 1 1] [] ?_ ?_
  refine WA.fin 10 [] [(0 : Int) ≤ a2 ∧ a2 < a1.size] (some ([0, 1, 2, 3], [2])) ⟨[(2, .p (.c (.int .u8 (bt a1 a2))))], [.box [.str a1, ci a2, ci a3, .str a4, .fn 121 [(1, 0), (2, 0)], .fn 124 [(2, 0)]], .box [.vw none tyI a5], .box [.sl 3], .row tyIII a6]⟩ ⟨h4, trivial⟩ ?_ ?_
  cases hF
  exact .xR hE [] [0, 1, 2, 3] (by kernel_rfl)
  all_goals kernel_rfl
 all_goals kernel_rfl
theorem S_impl_isOneOf (k : Nat) (a1 : Int) (a2 : ByteArray) (r : Bool) (hF : F_impl_isOneOf k a1 a2 = some r) : Spec Tryz.prog 125 [.p (.c (.int .u8 a1)), sS a2] [] (bB r) [] := by
 refine Spec.of 0 17 Tryz.func125 rfl rfl (Nat.le_of_ble_eq_true rfl) rfl fun w0 S0 Z0 M0 R0 hE => ?_
 unfold F_impl_isOneOf at hF
 refine .seq ?_
 refine .vW [] none [] trivial ?_ ?_
 refine .seq ?_
 refine .seq ?_
 refine .xW [] none ⟨[(5, iI 0), (4, bB false), (0, .p (.c (.int .u8 a1))), (1, sS a2)], []⟩ [] trivial ?_ ?_
 refine WT.join (f := fun v11 => F_impl_isOneOf_J1 k v11) (r := r) (S := fun v11 => ⟨[(4, bB false)], []⟩) (fun v11 hF => ?_) (fun hJJ1 => ?_)
 ·
  unfold F_impl_isOneOf_J1 at hF
  refine .seq ?_
  refine .vW [] none [] trivial ?_ ?_
  cases hF
  exact .xR hE [] [] (by kernel_rfl)
  all_goals kernel_rfl
 ·
  refine .block ?_
  refine WT.xL (fun s7 => ⟨[(0, .p (.c (.int .u8 a1))), (1, sS a2), (4, bB false), (5, iI s7)], []⟩) (l := fun n x => F_impl_isOneOf_L2 k a1 a2 (F_impl_isOneOf_J1 k) n x) (r := r) [.pick [] [0, 1, 4, 5]] (0) k hF (fun _ => rfl) (fun nL2 s7 ih hF => ?_) ?_
  dsimp only [F_impl_isOneOf_L2] at hF
  refine .seq ?_
  refine .seq ?_
  refine .xW [] (some ([], [0, 1, 4, 5, 9])) ⟨[(0, .p (.c (.int .u8 a1))), (1, sS a2), (4, bB false), (5, iI s7), (9, bB (decide (s7 < (a2.size : Int))))], []⟩ [] trivial ?_ ?_
  rcases condE hF with ⟨he, hF⟩ | ⟨he, hF⟩
  ·
   refine .xT he ?_ ?_
   refine .skip ?_
   refine .seq ?_
   refine .block ?_
   refine .seq ?_
   obtain ⟨h13, hF⟩ := iteE hF
   refine .xW [] (some ([], [0, 1, 4, 5, 16])) ⟨[(0, .p (.c (.int .u8 a1))), (1, sS a2), (4, bB false), (5, iI s7), (16, bB ((bt a2 s7) == a1))], []⟩ [(0 : Int) ≤ s7 ∧ s7 < a2.size] ⟨h13, trivial⟩ ?_ ?_
   rcases condE hF with ⟨he, hF⟩ | ⟨he, hF⟩
   ·
    refine .xT he ?_ ?_
    refine .seq ?_
    refine .vW [] (some ([], [0, 1, 4, 5])) [] trivial ?_ ?_
    cases hF
    exact .xR hE [] [] (by kernel_rfl)
    all_goals kernel_rfl
   ·
    refine .xF he ?_ ?_
    refine .skip ?_
    refine .inBlock ?_
    refine .vW [] (some ([], [0, 1, 4, 5])) [] trivial ?_ ?_
    exact .xS [.pick [] [0, 1, 4, 5]] (ih (w64 (s7 + 1)) hF) (by kernel_rfl)
    all_goals kernel_rfl
   all_goals kernel_rfl
  ·
   refine .xF he ?_ ?_
   refine .exit rfl ?_
   exact .xS [.pick [] [4]] (hJJ1 () hF) (by kernel_rfl)
   all_goals kernel_rfl
  all_goals kernel_rfl
 all_goals kernel_rfl
theorem S_impl_isFigure (k : Nat) (a1 : Int) (r : Bool) (hF : F_impl_isFigure k a1 = some r) : Spec Tryz.prog 160 [.p (.c (.int .u8 a1))] [] (bB r) [] := by
 refine Spec.of 0 9 Tryz.func160 rfl rfl (Nat.le_of_ble_eq_true rfl) rfl fun w0 S0 Z0 M0 R0 hE => ?_
 unfold F_impl_isFigure at hF
 refine .seq ?_
 refine .xW [] none ⟨[(2, bB false), (0, .p (.c (.int .u8 a1)))], []⟩ [] trivial ?_ ?_
 refine .seq ?_
 refine .uB [0, 1, 2] [3, 4, 5, 6] [] [] rfl trivial ?_ ?_
 rcases condE hF with ⟨he, hF⟩ | ⟨he, hF⟩
 ·
  refine WT.putB [5, 4] he ?_ ?_
  refine .vE [] (some ([], [2])) [] trivial ?_ ?_
  cases hF
  exact .xR hE [] [] (by kernel_rfl)
  all_goals kernel_rfl
 ·
  refine WT.putB [5, 4] he ?_ ?_
  refine .vE [] (some ([], [2])) [] trivial ?_ ?_
  cases hF
  exact .xR hE [] [] (by kernel_rfl)
  all_goals kernel_rfl
 all_goals kernel_rfl
theorem S_strconv_Atoi (k : Nat) (a1 : ByteArray) (r : Int × Bool) (hF : F_strconv_Atoi k a1 = some r) : Spec Tryz.prog 162 [sS a1] [] (.tup [.c (.int .i64 r.1), .c (.er r.2)]) [] :=
  spec_atoi (b1 := 0) (b2 := 1) (fun s hm v h w => Any.strconv_Atoi_ok Tryz.laysC172 s hm v h w)
    (fun s hl h ev w hv he => (Any.strconv_Atoi_syntax Tryz.laysC172 s hl h ev w hv he).mono fun _ _ ⟨n, h1, _, _, h2⟩ => ⟨n, h1, h2⟩)
    (fun s hl h ev w hv he => (Any.strconv_Atoi_range Tryz.laysC172 s hl h ev w hv he).mono fun _ _ ⟨n, h1, _, _, h2⟩ => ⟨n, h1, h2⟩) (by simp [glbs]) (by simp [glbs]) k a1 r hF
theorem S_strconv_Itoa (k : Nat) (a1 : Int) (r : ByteArray) (hF : F_strconv_Itoa k a1 = some r) : Spec Tryz.prog 163 [iI a1] [] (sS r) [] :=
  spec_itoa (b := 2) (fun n h0 h1 w ht => Any.strconv_Itoa Tryz.laysM171 n h0 h1 w ht) (by simp [glbs]) (by kernel_rfl) k a1 r hF
theorem S_impl_reader_figures_51fc (k : Nat) (a1 : Int) (a2 : ByteArray) (a3 : Int) (a4 : Int) (a5 : ByteArray) (a6 : (List Int)) (a7 : (List (Int × (Int × Int)))) (r : Int × Int) (hF : F_impl_reader_figures_51fc k a1 a2 a3 a4 a5 a6 a7 = some r) : Spec Tryz.prog 145 [pT 0 0, iI a1] [.box [.str a2, ci a3, ci a4, .str a5, .fn 121 [(1, 0), (2, 0)], .fn 124 [(2, 0)]], .box [.vw none tyI a6], .box [.sl 3], .row tyIII a7] (iI r.1) [.box [.str a2, ci r.2, ci a4, .str a5, .fn 121 [(1, 0), (2, 0)], .fn 124 [(2, 0)]], .box [.vw none tyI a6], .box [.sl 3], .row tyIII a7] := by
 refine Spec.of 4 53 Tryz.func145 rfl rfl (Nat.le_of_ble_eq_true rfl) rfl fun w0 S0 Z0 M0 R0 hE => ?_
 unfold F_impl_reader_figures_51fc at hF
 refine .seq ?_
 refine .vW [] none [] trivial ?_ ?_
 refine .seq ?_
 refine .xW [] (some ([0, 1, 2, 3], [0, 1, 4, 5])) ⟨[(0, pT 0 0), (1, iI a1), (4, iI 0), (5, iI a3)], [.box [.str a2, ci a3, ci a4, .str a5, .fn 121 [(1, 0), (2, 0)], .fn 124 [(2, 0)]], .box [.vw none tyI a6], .box [.sl 3], .row tyIII a7]⟩ [] trivial ?_ ?_
 refine .seq ?_
 refine WT.join (f := fun v13 => F_impl_reader_figures_51fc_J1 k a1 a2 a3 v13) (r := r) (S := fun v13 => ⟨[(0, pT 0 0), (1, iI a1), (4, iI 0), (5, iI a3)], [.box [.str a2, ci v13, ci a4, .str a5, .fn 121 [(1, 0), (2, 0)], .fn 124 [(2, 0)]], .box [.vw none tyI a6], .box [.sl 3], .row tyIII a7]⟩) (fun v13 hF => ?_) (fun hJJ1 => ?_)
 ·
  unfold F_impl_reader_figures_51fc_J1 at hF
  refine .seq ?_
  obtain ⟨h15, hF⟩ := iteE hF
  refine WA.xs [.cells 0 0 1, .cells 0 1 1] [] ?_ ?_
  refine WA.fin 11 [] [(0 : Int) ≤ a3 ∧ (a3 : Int) ≤ v13 ∧ v13 ≤ (a2.size : Int)] (some ([0, 1, 2, 3], [1, 4, 6])) ⟨[(1, iI a1), (4, iI 0), (6, sS (a2.extract (Int.toNat a3) (Int.toNat v13)))], [.box [.str a2, ci v13, ci a4, .str a5, .fn 121 [(1, 0), (2, 0)], .fn 124 [(2, 0)]], .box [.vw none tyI a6], .box [.sl 3], .row tyIII a7]⟩ ⟨h15, trivial⟩ ?_ ?_
  refine .seq ?_
  refine .uB [0] [1, 2, 3, 4, 5, 6] [] [] rfl trivial ?_ ?_
  obtain ⟨r16, h22, hF⟩ := bindE hF
  refine .uC false [] (S_strconv_Atoi k (a2.extract (Int.toNat a3) (Int.toNat v13)) r16 h22) rfl ?_ ?_
  refine .xE [] (some ([0, 1, 2, 3], [1, 4, 6, 7, 8])) ⟨[(1, iI a1), (4, iI 0), (6, sS (a2.extract (Int.toNat a3) (Int.toNat v13))), (7, iI r16.1), (8, .p (.c (.er r16.2)))], [.box [.str a2, ci v13, ci a4, .str a5, .fn 121 [(1, 0), (2, 0)], .fn 124 [(2, 0)]], .box [.vw none tyI a6], .box [.sl 3], .row tyIII a7]⟩ [] trivial ?_ ?_
  refine .seq ?_
  refine .seq ?_
  refine WT.join (f := fun v19 => F_impl_reader_figures_51fc_J17 k v13 r16 v19) (r := r) (S := fun v19 => ⟨[(4, iI 0), (7, iI r16.1), (51, bB v19)], [.box [.str a2, ci v13, ci a4, .str a5, .fn 121 [(1, 0), (2, 0)], .fn 124 [(2, 0)]], .box [.vw none tyI a6], .box [.sl 3], .row tyIII a7]⟩) (fun v19 hF => ?_) (fun hJJ17 => ?_)
  ·
   unfold F_impl_reader_figures_51fc_J17 at hF
   rcases condE hF with ⟨he, hF⟩ | ⟨he, hF⟩
   ·
    refine .xT he ?_ ?_
    refine .seq ?_
    refine .vW [] (some ([0, 1, 2, 3], [4, 7])) [] trivial ?_ ?_
    cases hF
    exact .xR hE [] [0, 1, 2, 3] (by kernel_rfl)
    all_goals kernel_rfl
   ·
    refine .xF he ?_ ?_
    refine .skip ?_
    refine .seq ?_
    refine .vW [] (some ([0, 1, 2, 3], [4])) [] trivial ?_ ?_
    cases hF
    exact .xR hE [] [0, 1, 2, 3] (by kernel_rfl)
    all_goals kernel_rfl
   all_goals kernel_rfl
  ·
   refine .uB [0, 1, 2] [3, 4, 5, 6, 7, 8, 9, 10, 11, 12, 13] [] [] rfl trivial ?_ ?_
   rcases condE hF with ⟨he, hF⟩ | ⟨he, hF⟩
   ·
    refine WT.putB [40, 39] he ?_ ?_
    refine .vE [] (some ([0, 1, 2, 3], [4, 7, 51])) [] trivial ?_ ?_
    exact .xS [.pick [0, 1, 2, 3] [4, 7, 51]] (hJJ17 (true) hF) (by kernel_rfl)
    all_goals kernel_rfl
   ·
    refine WT.putB [40, 39] he ?_ ?_
    refine .uN [3, 4, 5, 6, 7, 8] [9, 10, 11, 12, 13] [] [] rfl trivial ?_ ?_
    rcases condE hF with ⟨he, hF⟩ | ⟨he, hF⟩
    ·
     refine WT.putB [46, 45, 44] he ?_ ?_
     refine .vE [] (some ([0, 1, 2, 3], [4, 7, 51])) [] trivial ?_ ?_
     exact .xS [.pick [0, 1, 2, 3] [4, 7, 51]] (hJJ17 (true) hF) (by kernel_rfl)
     all_goals kernel_rfl
    ·
     refine WT.putB [46, 45, 44] he ?_ ?_
     refine .uN [9] [10, 11, 12, 13] [] [] rfl trivial ?_ ?_
     obtain ⟨r18, h21, hF⟩ := bindE hF
     refine .uC false [] (S_strconv_Itoa k r16.1 r18 h21) rfl ?_ ?_
     refine .vE [] (some ([0, 1, 2, 3], [4, 7, 51])) [] trivial ?_ ?_
     exact .xS [.pick [0, 1, 2, 3] [4, 7, 51]] (hJJ17 (!(r18.toList == (a2.extract (Int.toNat a3) (Int.toNat v13)).toList)) hF) (by kernel_rfl)
     all_goals kernel_rfl
    all_goals kernel_rfl
   all_goals kernel_rfl
  all_goals kernel_rfl
 ·
  refine .block ?_
  refine WT.xL (fun s8 => ⟨[(0, pT 0 0), (1, iI a1), (4, iI 0), (5, iI a3)], [.box [.str a2, ci s8, ci a4, .str a5, .fn 121 [(1, 0), (2, 0)], .fn 124 [(2, 0)]], .box [.vw none tyI a6], .box [.sl 3], .row tyIII a7]⟩) (l := fun n x => F_impl_reader_figures_51fc_L2 k a2 a4 a5 a6 a7 (F_impl_reader_figures_51fc_J1 k a1 a2 a3) n x) (r := r) [.pick [0, 1, 2, 3] [0, 1, 4, 5]] (a3) k hF (fun _ => rfl) (fun nL2 s8 ih hF => ?_) ?_
  dsimp only [F_impl_reader_figures_51fc_L2] at hF
  refine .seq ?_
  refine .seq ?_
  refine .uB [0] [1, 2] [] [] rfl trivial ?_ ?_
  obtain ⟨r9, h27, hF⟩ := bindE hF
  refine .uC false [.whole 0, .whole 1, .whole 2, .whole 3] (S_impl_reader_peek_0f1e k a2 s8 a4 a5 a6 a7 r9 h27) rfl ?_ ?_
  obtain ⟨r10, h26, hF⟩ := bindE hF
  refine .uC false [] (S_impl_isFigure k r9 r10 h26) rfl ?_ ?_
  refine .xE [] (some ([0, 1, 2, 3], [0, 1, 4, 5, 15])) ⟨[(0, pT 0 0), (1, iI a1), (4, iI 0), (5, iI a3), (15, bB r10)], [.box [.str a2, ci s8, ci a4, .str a5, .fn 121 [(1, 0), (2, 0)], .fn 124 [(2, 0)]], .box [.vw none tyI a6], .box [.sl 3], .row tyIII a7]⟩ [] trivial ?_ ?_
  rcases condE hF with ⟨he, hF⟩ | ⟨he, hF⟩
  ·
   refine .xT he ?_ ?_
   refine .skip ?_
   refine .block ?_
   refine .vW [] (some ([0, 1, 2, 3], [0, 1, 4, 5])) [] trivial ?_ ?_
   refine .inBlock ?_
   exact .xS [.pick [0, 1, 2, 3] [0, 1, 4, 5]] (ih (w64 (s8 + 1)) hF) (by kernel_rfl)
   all_goals kernel_rfl
  ·
   refine .xF he ?_ ?_
   refine .exit rfl ?_
   exact .xS [.pick [0, 1, 2, 3] [0, 1, 4, 5]] (hJJ1 (s8) hF) (by kernel_rfl)
   all_goals kernel_rfl
  all_goals kernel_rfl
 all_goals kernel_rfl
theorem S_impl_reader_place_ba6e (k : Nat) (a1 : (List Int)) (a2 : ByteArray) (a3 : Int) (a4 : Int) (a5 : ByteArray) (a6 : (List Int)) (a7 : (List (Int × (Int × Int)))) (r : Int × Int × Int) (hF : F_impl_reader_place_ba6e k a1 a2 a3 a4 a5 a6 a7 = some r) : Spec Tryz.prog 122 [pT 0 0, vV none tyI a1] [.box [.str a2, ci a3, ci a4, .str a5, .fn 121 [(1, 0), (2, 0)], .fn 124 [(2, 0)]], .box [.vw none tyI a6], .box [.sl 3], .row tyIII a7] (iI r.1) [.box [.str a2, ci r.2.1, ci r.2.2, .str a5, .fn 121 [(1, 0), (2, 0)], .fn 124 [(2, 0)]], .box [.vw none tyI a6], .box [.sl 3], .row tyIII a7] := by
 refine Spec.of 4 33 Tryz.func122 rfl rfl (Nat.le_of_ble_eq_true rfl) rfl fun w0 S0 Z0 M0 R0 hE => ?_
 unfold F_impl_reader_place_ba6e at hF
 refine .seq ?_
 refine .vW [] none [] trivial ?_ ?_
 refine .seq ?_
 refine .vW [] (some ([0, 1, 2, 3], [0, 1, 4, 5])) [] trivial ?_ ?_
 refine .seq ?_
 refine .xW [] (some ([0, 1, 2, 3], [0, 1, 4, 5])) ⟨[(0, pT 0 0), (1, vV none tyI a1), (4, iI 0), (5, iI a3)], [.box [.str a2, ci (w64 (a3 + 1)), ci a4, .str a5, .fn 121 [(1, 0), (2, 0)], .fn 124 [(2, 0)]], .box [.vw none tyI a6], .box [.sl 3], .row tyIII a7]⟩ [] trivial ?_ ?_
 refine .seq ?_
 refine .uB [0] [1, 2] [] [] rfl trivial ?_ ?_
 obtain ⟨r1, h9, hF⟩ := bindE hF
 refine .uC false [.whole 0, .whole 1, .whole 2, .whole 3] (S_impl_reader_figures_51fc k 4 a2 (w64 (a3 + 1)) a4 a5 a6 a7 r1 h9) rfl ?_ ?_
 refine .xE [] (some ([0, 1, 2, 3], [0, 1, 4, 5, 6])) ⟨[(0, pT 0 0), (1, vV none tyI a1), (4, iI 0), (5, iI a3), (6, iI r1.1)], [.box [.str a2, ci r1.2, ci a4, .str a5, .fn 121 [(1, 0), (2, 0)], .fn 124 [(2, 0)]], .box [.vw none tyI a6], .box [.sl 3], .row tyIII a7]⟩ [] trivial ?_ ?_
 refine .seq ?_
 refine .seq ?_
 refine .uB [0, 1, 2, 3] [4, 5] [] [] rfl trivial ?_ ?_
 obtain ⟨r2, h8, hF⟩ := bindE hF
 refine .uC false [] (S_impl_inRange k r1.1 0 (w64 ((a1.length : Int) - 1)) r2 h8) rfl ?_ ?_
 refine .xE [] (some ([0, 1, 2, 3], [0, 1, 4, 5, 6, 25])) ⟨[(0, pT 0 0), (1, vV none tyI a1), (4, iI 0), (5, iI a3), (6, iI r1.1), (25, bB (!r2))], [.box [.str a2, ci r1.2, ci a4, .str a5, .fn 121 [(1, 0), (2, 0)], .fn 124 [(2, 0)]], .box [.vw none tyI a6], .box [.sl 3], .row tyIII a7]⟩ [] trivial ?_ ?_
 rcases condE hF with ⟨he, hF⟩ | ⟨he, hF⟩
 ·
  refine .xT he ?_ ?_
  refine .seq ?_
  refine .uB [0, 1] [2, 3] [] [] rfl trivial ?_ ?_
  obtain ⟨r4, h6, hF⟩ := bindE hF
  refine .uC false [.whole 0, .whole 1, .whole 2, .whole 3] (S_impl_reader_fail_8d05 k 4 a3 a2 r1.2 a4 a5 a6 a7 r4 h6) rfl ?_ ?_
  refine .vE [] (some ([0, 1, 2, 3], [1, 4, 6])) [] trivial ?_ ?_
  cases hF
  exact .xR hE [] [0, 1, 2, 3] (by kernel_rfl)
  all_goals kernel_rfl
 ·
  refine .xF he ?_ ?_
  refine .skip ?_
  refine .seq ?_
  obtain ⟨x5, h7, hF⟩ := bindE hF
  refine .vW [.el tyI x5] (some ([0, 1, 2, 3], [4])) [at? a1 r1.1 = some x5] ⟨h7, trivial⟩ ?_ ?_
  cases hF
  exact .xR hE [] [0, 1, 2, 3] (by kernel_rfl)
  all_goals kernel_rfl
 all_goals kernel_rfl
theorem S_impl_reader_number_51fc (k : Nat) (a1 : Int) (a2 : ByteArray) (a3 : Int) (a4 : Int) (a5 : ByteArray) (a6 : (List Int)) (a7 : (List (Int × (Int × Int)))) (r : Int × Int × Int) (hF : F_impl_reader_number_51fc k a1 a2 a3 a4 a5 a6 a7 = some r) : Spec Tryz.prog 147 [pT 0 0, iI a1] [.box [.str a2, ci a3, ci a4, .str a5, .fn 121 [(1, 0), (2, 0)], .fn 124 [(2, 0)]], .box [.vw none tyI a6], .box [.sl 3], .row tyIII a7] (iI r.1) [.box [.str a2, ci r.2.1, ci r.2.2, .str a5, .fn 121 [(1, 0), (2, 0)], .fn 124 [(2, 0)]], .box [.vw none tyI a6], .box [.sl 3], .row tyIII a7] := by
 refine Spec.of 4 15 Tryz.func147 rfl rfl (Nat.le_of_ble_eq_true rfl) rfl fun w0 S0 Z0 M0 R0 hE => ?_
 unfold F_impl_reader_number_51fc at hF
 refine .seq ?_
 refine .xW [] none ⟨[(4, iI 0), (0, pT 0 0), (1, iI a1)], [.box [.str a2, ci a3, ci a4, .str a5, .fn 121 [(1, 0), (2, 0)], .fn 124 [(2, 0)]], .box [.vw none tyI a6], .box [.sl 3], .row tyIII a7]⟩ [] trivial ?_ ?_
 refine .seq ?_
 refine .uB [0] [1, 2] [] [] rfl trivial ?_ ?_
 obtain ⟨r1, h7, hF⟩ := bindE hF
 refine .uC false [.whole 0, .whole 1, .whole 2, .whole 3] (S_impl_reader_figures_51fc k 9 a2 a3 a4 a5 a6 a7 r1 h7) rfl ?_ ?_
 refine .xE [] (some ([0, 1, 2, 3], [0, 1, 4, 5])) ⟨[(0, pT 0 0), (1, iI a1), (4, iI 0), (5, iI r1.1)], [.box [.str a2, ci r1.2, ci a4, .str a5, .fn 121 [(1, 0), (2, 0)], .fn 124 [(2, 0)]], .box [.vw none tyI a6], .box [.sl 3], .row tyIII a7]⟩ [] trivial ?_ ?_
 refine .seq ?_
 refine .seq ?_
 refine .uB [0] [1, 2] [] [] rfl trivial ?_ ?_
 obtain ⟨r2, h6, hF⟩ := bindE hF
 refine .uC false [] (S_impl_inRange k r1.1 0 199 r2 h6) rfl ?_ ?_
 refine .xE [] (some ([0, 1, 2, 3], [0, 1, 4, 5, 10])) ⟨[(0, pT 0 0), (1, iI a1), (4, iI 0), (5, iI r1.1), (10, bB (!r2))], [.box [.str a2, ci r1.2, ci a4, .str a5, .fn 121 [(1, 0), (2, 0)], .fn 124 [(2, 0)]], .box [.vw none tyI a6], .box [.sl 3], .row tyIII a7]⟩ [] trivial ?_ ?_
 rcases condE hF with ⟨he, hF⟩ | ⟨he, hF⟩
 ·
  refine .xT he ?_ ?_
  refine .seq ?_
  refine .uB [0, 1] [2, 3] [] [] rfl trivial ?_ ?_
  obtain ⟨r4, h5, hF⟩ := bindE hF
  refine .uC false [.whole 0, .whole 1, .whole 2, .whole 3] (S_impl_reader_fail_8d05 k 4 a1 a2 r1.2 a4 a5 a6 a7 r4 h5) rfl ?_ ?_
  refine .vE [] (some ([0, 1, 2, 3], [4, 5])) [] trivial ?_ ?_
  cases hF
  exact .xR hE [] [0, 1, 2, 3] (by kernel_rfl)
  all_goals kernel_rfl
 ·
  refine .xF he ?_ ?_
  refine .skip ?_
  refine .seq ?_
  refine .vW [] (some ([0, 1, 2, 3], [4])) [] trivial ?_ ?_
  cases hF
  exact .xR hE [] [0, 1, 2, 3] (by kernel_rfl)
  all_goals kernel_rfl
 all_goals kernel_rfl
theorem S_impl_IsPublic (k : Nat) (a1 : Int) (r : Bool) (hF : F_impl_IsPublic k a1 = some r) : Spec Tryz.prog 148 [iI a1] [] (bB r) [] := by
 refine Spec.of 0 5 Tryz.func148 rfl rfl (Nat.le_of_ble_eq_true rfl) rfl fun w0 S0 Z0 M0 R0 hE => ?_
 unfold F_impl_IsPublic at hF
 refine .seq ?_
 refine .xW [] none ⟨[(2, bB false), (0, iI a1)], []⟩ [] trivial ?_ ?_
 refine .seq ?_
 refine .uB [0] [1, 2] [] [] rfl trivial ?_ ?_
 obtain ⟨r1, h2, hF⟩ := bindE hF
 refine .uC false [] (S_impl_inRange k a1 0 49 r1 h2) rfl ?_ ?_
 refine .vE [] (some ([], [2])) [] trivial ?_ ?_
 cases hF
 exact .xR hE [] [] (by kernel_rfl)
 all_goals kernel_rfl
theorem S_impl_reader_orFull_51fc (k : Nat) (a1 : Int) (a2 : ByteArray) (a3 : Int) (a4 : Int) (a5 : ByteArray) (a6 : (List Int)) (a7 : (List (Int × (Int × Int)))) (r : Int × Int × Int) (hF : F_impl_reader_orFull_51fc k a1 a2 a3 a4 a5 a6 a7 = some r) : Spec Tryz.prog 149 [pT 0 0, iI a1] [.box [.str a2, ci a3, ci a4, .str a5, .fn 121 [(1, 0), (2, 0)], .fn 124 [(2, 0)]], .box [.vw none tyI a6], .box [.sl 3], .row tyIII a7] (iI r.1) [.box [.str a2, ci r.2.1, ci r.2.2, .str a5, .fn 121 [(1, 0), (2, 0)], .fn 124 [(2, 0)]], .box [.vw none tyI a6], .box [.sl 3], .row tyIII a7] := by
 refine Spec.of 4 14 Tryz.func149 rfl rfl (Nat.le_of_ble_eq_true rfl) rfl fun w0 S0 Z0 M0 R0 hE => ?_
 unfold F_impl_reader_orFull_51fc at hF
 refine .seq ?_
 refine .vW [] none [] trivial ?_ ?_
 refine .seq ?_
 refine .seq ?_
 refine .xW [] (some ([0, 1, 2, 3], [0, 1, 4, 6])) ⟨[(0, pT 0 0), (1, iI a1), (4, iI 0), (6, bB (decide (a1 < 0)))], [.box [.str a2, ci a3, ci a4, .str a5, .fn 121 [(1, 0), (2, 0)], .fn 124 [(2, 0)]], .box [.vw none tyI a6], .box [.sl 3], .row tyIII a7]⟩ [] trivial ?_ ?_
 rcases condE hF with ⟨he, hF⟩ | ⟨he, hF⟩
 ·
  refine .xT he ?_ ?_
  refine .seq ?_
  refine .uB [0, 1, 2, 3, 4] [5, 6] [] [] rfl trivial ?_ ?_
  obtain ⟨r2, h3, hF⟩ := bindE hF
  refine .uC false [.whole 0, .whole 1, .whole 2, .whole 3] (S_impl_reader_fail_8d05 k 5 a3 a2 a3 a4 a5 a6 a7 r2 h3) rfl ?_ ?_
  refine .vE [] (some ([0, 1, 2, 3], [1, 4])) [] trivial ?_ ?_
  cases hF
  exact .xR hE [] [0, 1, 2, 3] (by kernel_rfl)
  all_goals kernel_rfl
 ·
  refine .xF he ?_ ?_
  refine .skip ?_
  refine .seq ?_
  refine .vW [] (some ([0, 1, 2, 3], [4])) [] trivial ?_ ?_
  cases hF
  exact .xR hE [] [0, 1, 2, 3] (by kernel_rfl)
  all_goals kernel_rfl
 all_goals kernel_rfl
theorem S_impl_reader_public_20dc (k : Nat) (a1 : ByteArray) (a2 : Int) (a3 : Int) (a4 : ByteArray) (a5 : (List Int)) (a6 : (List (Int × (Int × Int)))) (r : Int × Int × Int × (List (Int × (Int × Int)))) (hF : F_impl_reader_public_20dc k a1 a2 a3 a4 a5 a6 = some r) : Spec Tryz.prog 123 [pT 0 0, pT 2 0] [.box [.str a1, ci a2, ci a3, .str a4, .fn 121 [(1, 0), (2, 0)], .fn 124 [(2, 0)]], .box [.vw none tyI a5], .box [.sl 3], .row tyIII a6] (iI r.1) [.box [.str a1, ci r.2.1, ci r.2.2.1, .str a4, .fn 121 [(1, 0), (2, 0)], .fn 124 [(2, 0)]], .box [.vw none tyI a5], .box [.sl 4], .dead, .row tyIII r.2.2.2] := by
 refine Spec.of 4 39 Tryz.func123 rfl rfl (Nat.le_of_ble_eq_true rfl) rfl fun w0 S0 Z0 M0 R0 hE => ?_
 unfold F_impl_reader_public_20dc at hF
 refine .seq ?_
 refine .vW [] none [] trivial ?_ ?_
 refine .seq ?_
 refine .vW [] (some ([0, 1, 2, 3], [0, 1, 4, 5])) [] trivial ?_ ?_
 refine .seq ?_
 refine .xW [] (some ([0, 1, 2, 3], [0, 1, 4, 5])) ⟨[(0, pT 0 0), (1, pT 2 0), (4, iI 0), (5, iI a2)], [.box [.str a1, ci (w64 (a2 + 1)), ci a3, .str a4, .fn 121 [(1, 0), (2, 0)], .fn 124 [(2, 0)]], .box [.vw none tyI a5], .box [.sl 3], .row tyIII a6]⟩ [] trivial ?_ ?_
 refine .seq ?_
 refine .uB [0, 1] [2, 3] [] [] rfl trivial ?_ ?_
 obtain ⟨r1, h13, hF⟩ := bindE hF
 refine .uC false [.whole 0, .whole 1, .whole 2, .whole 3] (S_impl_reader_number_51fc k a2 a1 (w64 (a2 + 1)) a3 a4 a5 a6 r1 h13) rfl ?_ ?_
 refine .vE [] (some ([0, 1, 2, 3], [0, 1, 4, 5, 6])) [] trivial ?_ ?_
 refine .seq ?_
 refine .block ?_
 refine .seq ?_
 refine .xW [] (some ([0, 1, 2, 3], [0, 1, 4, 5, 6, 21])) ⟨[(0, pT 0 0), (1, pT 2 0), (4, iI 0), (5, iI a2), (6, iI r1.1), (21, bB (r1.2.2 != 0))], [.box [.str a1, ci r1.2.1, ci r1.2.2, .str a4, .fn 121 [(1, 0), (2, 0)], .fn 124 [(2, 0)]], .box [.vw none tyI a5], .box [.sl 3], .row tyIII a6]⟩ [] trivial ?_ ?_
 rcases condE hF with ⟨he, hF⟩ | ⟨he, hF⟩
 ·
  refine .xT he ?_ ?_
  refine .seq ?_
  refine .vW [] (some ([0, 1, 2, 3], [0, 1, 4, 6])) [] trivial ?_ ?_
  cases hF
  exact .xR hE [.mv 3] [0, 1, 2, 3, 4] (by kernel_rfl)
  all_goals kernel_rfl
 ·
  refine .xF he ?_ ?_
  refine .seq ?_
  refine .uB [0] [1, 2, 3] [] [] rfl trivial ?_ ?_
  obtain ⟨r4, h12, hF⟩ := bindE hF
  refine .uC false [] (S_impl_IsPublic k r1.1 r4 h12) rfl ?_ ?_
  refine .xE [] (some ([0, 1, 2, 3], [0, 1, 4, 5, 6, 27])) ⟨[(0, pT 0 0), (1, pT 2 0), (4, iI 0), (5, iI a2), (6, iI r1.1), (27, bB (!r4))], [.box [.str a1, ci r1.2.1, ci r1.2.2, .str a4, .fn 121 [(1, 0), (2, 0)], .fn 124 [(2, 0)]], .box [.vw none tyI a5], .box [.sl 3], .row tyIII a6]⟩ [] trivial ?_ ?_
  rcases condE hF with ⟨he, hF⟩ | ⟨he, hF⟩
  ·
   refine .xT he ?_ ?_
   refine .seq ?_
   refine .uB [0, 1] [2, 3] [] [] rfl trivial ?_ ?_
   obtain ⟨r6, h9, hF⟩ := bindE hF
   refine .uC false [.whole 0, .whole 1, .whole 2, .whole 3] (S_impl_reader_fail_8d05 k 4 a2 a1 r1.2.1 r1.2.2 a4 a5 a6 r6 h9) rfl ?_ ?_
   refine .vE [] (some ([0, 1, 2, 3], [0, 1, 4, 6])) [] trivial ?_ ?_
   cases hF
   exact .xR hE [.mv 3] [0, 1, 2, 3, 4] (by kernel_rfl)
   all_goals kernel_rfl
  ·
   refine .xF he ?_ ?_
   refine .skip ?_
   refine .inBlock ?_
   refine .seq ?_
   refine .uB [0, 1, 2] [3, 4, 5] [] [] rfl trivial ?_ ?_
   obtain ⟨r7, h11, hF⟩ := bindE hF
   refine .uC false [.whole 2, .whole 3] (S_impl_Pool_name_3ca5 k r1.1 a6 r7 h11) rfl ?_ ?_
   obtain ⟨r8, h10, hF⟩ := bindE hF
   refine .uC false [.whole 0, .whole 1, .whole 2, .whole 4] (S_impl_reader_orFull_51fc k r7.1 a1 r1.2.1 r1.2.2 a4 a5 r7.2 r8 h10) rfl ?_ ?_
   refine .vE [] (some ([0, 1, 2, 3, 4], [4])) [] trivial ?_ ?_
   cases hF
   exact .xR hE [] [0, 1, 2, 3, 4] (by kernel_rfl)
   all_goals kernel_rfl
  all_goals kernel_rfl
 all_goals kernel_rfl
theorem S_impl_RecipeRun_1_c681 (k : Nat) (a1 : Int) (a2 : ByteArray) (a3 : Int) (a4 : Int) (a5 : ByteArray) (a6 : (List Int)) (a7 : (List (Int × (Int × Int)))) (r : Int × Int × Int × (List (Int × (Int × Int)))) (hF : F_impl_RecipeRun_1_c681 k a1 a2 a3 a4 a5 a6 a7 = some r) : Spec Tryz.prog 121 [pT 0 0, .p (.c (.int .u8 a1)), pT 1 0, pT 2 0] [.box [.str a2, ci a3, ci a4, .str a5, .fn 121 [(1, 0), (2, 0)], .fn 124 [(2, 0)]], .box [.vw none tyI a6], .box [.sl 3], .row tyIII a7] (iI r.1) [.box [.str a2, ci r.2.1, ci r.2.2.1, .str a5, .fn 121 [(1, 0), (2, 0)], .fn 124 [(2, 0)]], .box [.vw none tyI a6], .box [.sl 4], .dead, .row tyIII r.2.2.2] := by
 refine Spec.of 4 14 Tryz.func121 rfl rfl (Nat.le_of_ble_eq_true rfl) rfl fun w0 S0 Z0 M0 R0 hE => ?_
 unfold F_impl_RecipeRun_1_c681 at hF
 refine .seq ?_
 refine .vW [] none [] trivial ?_ ?_
 refine .seq ?_
 refine .seq ?_
 refine .xW [] (some ([0, 1, 2, 3], [0, 2, 3, 6, 8])) ⟨[(0, pT 0 0), (2, pT 1 0), (3, pT 2 0), (6, iI 0), (8, bB (a1 == 64))], [.box [.str a2, ci a3, ci a4, .str a5, .fn 121 [(1, 0), (2, 0)], .fn 124 [(2, 0)]], .box [.vw none tyI a6], .box [.sl 3], .row tyIII a7]⟩ [] trivial ?_ ?_
 rcases condE hF with ⟨he, hF⟩ | ⟨he, hF⟩
 ·
  refine .xT he ?_ ?_
  refine .seq ?_
  refine .uB [0, 1] [2, 3] [] [] rfl trivial ?_ ?_
  obtain ⟨r2, h4, hF⟩ := bindE hF
  refine .uC false [.whole 0, .whole 1, .whole 2, .whole 3] (S_impl_reader_place_ba6e k a6 a2 a3 a4 a5 a6 a7 r2 h4) rfl ?_ ?_
  refine .vE [] (some ([0, 1, 2, 3], [0, 2, 3, 6])) [] trivial ?_ ?_
  cases hF
  exact .xR hE [.mv 3] [0, 1, 2, 3, 4] (by kernel_rfl)
  all_goals kernel_rfl
 ·
  refine .xF he ?_ ?_
  refine .skip ?_
  refine .seq ?_
  refine .uB [0] [1, 2] [] [] rfl trivial ?_ ?_
  obtain ⟨r3, h5, hF⟩ := bindE hF
  refine .uC false [.whole 0, .whole 1, .whole 2, .whole 3] (S_impl_reader_public_20dc k a2 a3 a4 a5 a6 a7 r3 h5) rfl ?_ ?_
  refine .vE [] (some ([0, 1, 2, 3, 4], [6])) [] trivial ?_ ?_
  cases hF
  exact .xR hE [] [0, 1, 2, 3, 4] (by kernel_rfl)
  all_goals kernel_rfl
 all_goals kernel_rfl
theorem S_impl_closing (k : Nat) (a1 : Int) (r : Int) (hF : F_impl_closing k a1 = some r) : Spec Tryz.prog 165 [.p (.c (.int .u8 a1))] [] (.p (.c (.int .u8 r))) [] := by
 refine Spec.of 0 8 Tryz.func165 rfl rfl (Nat.le_of_ble_eq_true rfl) rfl fun w0 S0 Z0 M0 R0 hE => ?_
 unfold F_impl_closing at hF
 refine .seq ?_
 refine .vW [] none [] trivial ?_ ?_
 refine .seq ?_
 refine .seq ?_
 refine .vW [] (some ([], [2, 3])) [] trivial ?_ ?_
 refine .block ?_
 refine .seq ?_
 refine .xW [] (some ([], [2, 3, 4])) ⟨[(2, .p (.c (.int .u8 0))), (3, .p (.c (.int .u8 a1))), (4, bB (a1 == 123))], []⟩ [] trivial ?_ ?_
 rcases condE hF with ⟨he, hF⟩ | ⟨he, hF⟩
 ·
  refine .xT he ?_ ?_
  refine .seq ?_
  refine .vW [] (some ([], [2])) [] trivial ?_ ?_
  cases hF
  exact .xR hE [] [] (by kernel_rfl)
  all_goals kernel_rfl
 ·
  refine .xF he ?_ ?_
  refine .seq ?_
  refine .xW [] (some ([], [2, 6])) ⟨[(2, .p (.c (.int .u8 0))), (6, bB (a1 == 91))], []⟩ [] trivial ?_ ?_
  rcases condE hF with ⟨he, hF⟩ | ⟨he, hF⟩
  ·
   refine .xT he ?_ ?_
   refine .seq ?_
   refine .vW [] (some ([], [2])) [] trivial ?_ ?_
   cases hF
   exact .xR hE [] [] (by kernel_rfl)
   all_goals kernel_rfl
  ·
   refine .xF he ?_ ?_
   refine .skip ?_
   refine .inBlock ?_
   refine .seq ?_
   refine .vW [] (some ([], [2])) [] trivial ?_ ?_
   cases hF
   exact .xR hE [] [] (by kernel_rfl)
   all_goals kernel_rfl
  all_goals kernel_rfl
 all_goals kernel_rfl
theorem S_impl_reader_take_32e8 (k : Nat) (a1 : Int) (a2 : ByteArray) (a3 : Int) (a4 : Int) (a5 : ByteArray) (a6 : (List Int)) (a7 : (List (Int × (Int × Int)))) (r : Int × Int) (hF : F_impl_reader_take_32e8 k a1 a2 a3 a4 a5 a6 a7 = some r) : Spec Tryz.prog 166 [pT 0 0, .p (.c (.int .u8 a1))] [.box [.str a2, ci a3, ci a4, .str a5, .fn 121 [(1, 0), (2, 0)], .fn 124 [(2, 0)]], .box [.vw none tyI a6], .box [.sl 3], .row tyIII a7] (.tup []) [.box [.str a2, ci r.1, ci r.2, .str a5, .fn 121 [(1, 0), (2, 0)], .fn 124 [(2, 0)]], .box [.vw none tyI a6], .box [.sl 3], .row tyIII a7] := by
 refine Spec.of 4 53 Tryz.func166 rfl rfl (Nat.le_of_ble_eq_true rfl) rfl fun w0 S0 Z0 M0 R0 hE => ?_
 unfold F_impl_reader_take_32e8 at hF
 refine .block ?_
 refine .seq ?_
 refine .xW [] (some ([0, 1, 2, 3], [0, 1, 11])) ⟨[(0, pT 0 0), (1, .p (.c (.int .u8 a1))), (11, bB (a4 != 0))], [.box [.str a2, ci a3, ci a4, .str a5, .fn 121 [(1, 0), (2, 0)], .fn 124 [(2, 0)]], .box [.vw none tyI a6], .box [.sl 3], .row tyIII a7]⟩ [] trivial ?_ ?_
 rcases condE hF with ⟨he, hF⟩ | ⟨he, hF⟩
 ·
  refine .xT he ?_ ?_
  refine .skip ?_
  refine .inBlock ?_
  cases hF
  exact .fall3 hE [] [0, 1, 2, 3] (by kernel_rfl)
  all_goals kernel_rfl
 ·
  refine .xF he ?_ ?_
  refine .seq ?_
  refine WA.xs [.cells 0 0 1, .cells 0 1 1] [] ?_ ?_
  refine WA.fin 11 [] [] (some ([0, 1, 2, 3], [0, 1, 17])) ⟨[(0, pT 0 0), (1, .p (.c (.int .u8 a1))), (17, bB (decide (a3 ≥ (a2.size : Int))))], [.box [.str a2, ci a3, ci a4, .str a5, .fn 121 [(1, 0), (2, 0)], .fn 124 [(2, 0)]], .box [.vw none tyI a6], .box [.sl 3], .row tyIII a7]⟩ trivial ?_ ?_
  rcases condE hF with ⟨he, hF⟩ | ⟨he, hF⟩
  ·
   refine .xT he ?_ ?_
   refine .uB [0, 1, 2, 3, 4, 5] [6] [] [] rfl trivial ?_ ?_
   obtain ⟨r5, h10, hF⟩ := bindE hF
   refine .uC false [.whole 0, .whole 1, .whole 2, .whole 3] (S_impl_reader_fail_8d05 k 2 (a2.size : Int) a2 a3 a4 a5 a6 a7 r5 h10) rfl ?_ ?_
   refine .vE [] (some ([0, 1, 2, 3], [])) [] trivial ?_ ?_
   refine .inBlock ?_
   cases hF
   exact .fall3 hE [] [0, 1, 2, 3] (by kernel_rfl)
   all_goals kernel_rfl
  ·
   refine .xF he ?_ ?_
   refine .seq ?_
   obtain ⟨h7, hF⟩ := iteE hF
   refine WA.xs [.cells 0 0 1, .cells 0 1 1] [] ?_ ?_
   refine WA.fin 12 [] [(0 : Int) ≤ a3 ∧ a3 < a2.size] (some ([0, 1, 2, 3], [0, 35])) ⟨[(0, pT 0 0), (35, bB ((bt a2 a3) != a1))], [.box [.str a2, ci a3, ci a4, .str a5, .fn 121 [(1, 0), (2, 0)], .fn 124 [(2, 0)]], .box [.vw none tyI a6], .box [.sl 3], .row tyIII a7]⟩ ⟨h7, trivial⟩ ?_ ?_
   rcases condE hF with ⟨he, hF⟩ | ⟨he, hF⟩
   ·
    refine .xT he ?_ ?_
    refine .uB [0, 1, 2, 3, 4] [5] [] [] rfl trivial ?_ ?_
    obtain ⟨r9, h11, hF⟩ := bindE hF
    refine .uC false [.whole 0, .whole 1, .whole 2, .whole 3] (S_impl_reader_fail_8d05 k 3 a3 a2 a3 a4 a5 a6 a7 r9 h11) rfl ?_ ?_
    refine .vE [] (some ([0, 1, 2, 3], [])) [] trivial ?_ ?_
    refine .inBlock ?_
    cases hF
    exact .fall3 hE [] [0, 1, 2, 3] (by kernel_rfl)
    all_goals kernel_rfl
   ·
    refine .xF he ?_ ?_
    refine .vW [] (some ([0, 1, 2, 3], [])) [] trivial ?_ ?_
    refine .inBlock ?_
    cases hF
    exact .fall3 hE [] [0, 1, 2, 3] (by kernel_rfl)
    all_goals kernel_rfl
   all_goals kernel_rfl
  all_goals kernel_rfl
 all_goals kernel_rfl
theorem S_impl_reader_two_32e8 (k : Nat) (q_impl_reader_read_0f1e : ByteArray → Int → Int → ByteArray → (List Int) → (List (Int × (Int × Int))) → Option (Int × Int × Int × (List (Int × (Int × Int))))) (hq_impl_reader_read_0f1e : ∀ (a1 : ByteArray) (a2 : Int) (a3 : Int) (a4 : ByteArray) (a5 : (List Int)) (a6 : (List (Int × (Int × Int)))) (r : Int × Int × Int × (List (Int × (Int × Int)))), q_impl_reader_read_0f1e a1 a2 a3 a4 a5 a6 = some r → Spec Tryz.prog 152 [pT 0 0] [.box [.str a1, ci a2, ci a3, .str a4, .fn 121 [(1, 0), (2, 0)], .fn 124 [(2, 0)]], .box [.vw none tyI a5], .box [.sl 3], .row tyIII a6] (iI r.1) [.box [.str a1, ci r.2.1, ci r.2.2.1, .str a4, .fn 121 [(1, 0), (2, 0)], .fn 124 [(2, 0)]], .box [.vw none tyI a5], .box [.sl 4], .dead, .row tyIII r.2.2.2]) (a1 : Int) (a2 : ByteArray) (a3 : Int) (a4 : Int) (a5 : ByteArray) (a6 : (List Int)) (a7 : (List (Int × (Int × Int)))) (r : Int × Int × (List Int) × (List (Int × (Int × Int)))) (hF : F_impl_reader_two_32e8 k q_impl_reader_read_0f1e a1 a2 a3 a4 a5 a6 a7 = some r) : Spec Tryz.prog 164 [pT 0 0, .p (.c (.int .u8 a1))] [.box [.str a2, ci a3, ci a4, .str a5, .fn 121 [(1, 0), (2, 0)], .fn 124 [(2, 0)]], .box [.vw none tyI a6], .box [.sl 3], .row tyIII a7] (sL 4) [.box [.str a2, ci r.1, ci r.2.1, .str a5, .fn 121 [(1, 0), (2, 0)], .fn 124 [(2, 0)]], .box [.vw none tyI a6], .box [.sl 5], .dead, .row tyI r.2.2.1, .row tyIII r.2.2.2] := by
 refine Spec.of 4 19 Tryz.func164 rfl rfl (Nat.le_of_ble_eq_true rfl) rfl fun w0 S0 Z0 M0 R0 hE => ?_
 unfold F_impl_reader_two_32e8 at hF
 refine .seq ?_
 refine .xW [] none ⟨[(4, .p (.c (.nilsl))), (0, pT 0 0), (1, .p (.c (.int .u8 a1)))], [.box [.str a2, ci a3, ci a4, .str a5, .fn 121 [(1, 0), (2, 0)], .fn 124 [(2, 0)]], .box [.vw none tyI a6], .box [.sl 3], .row tyIII a7]⟩ [] trivial ?_ ?_
 refine .seq ?_
 refine .uB [0] [1, 2] [] [] rfl trivial ?_ ?_
 obtain ⟨r1, h8, hF⟩ := bindE hF
 refine .uC false [.whole 0, .whole 1, .whole 2, .whole 3] (hq_impl_reader_read_0f1e a2 a3 a4 a5 a6 a7 r1 h8) rfl ?_ ?_
 refine .xE [] (some ([0, 1, 2, 3, 4], [0, 1, 4, 5])) ⟨[(0, pT 0 0), (1, .p (.c (.int .u8 a1))), (4, .p (.c (.nilsl))), (5, iI r1.1)], [.box [.str a2, ci r1.2.1, ci r1.2.2.1, .str a5, .fn 121 [(1, 0), (2, 0)], .fn 124 [(2, 0)]], .box [.vw none tyI a6], .box [.sl 4], .dead, .row tyIII r1.2.2.2]⟩ [] trivial ?_ ?_
 refine .seq ?_
 refine .uB [0] [1] [] [] rfl trivial ?_ ?_
 obtain ⟨r2, h7, hF⟩ := bindE hF
 refine .uC false [.whole 0, .whole 1, .whole 2, .whole 4] (S_impl_reader_take_32e8 k 44 a2 r1.2.1 r1.2.2.1 a5 a6 r1.2.2.2 r2 h7) rfl ?_ ?_
 refine .xE [] (some ([0, 1, 2, 3, 4], [0, 1, 4, 5])) ⟨[(0, pT 0 0), (1, .p (.c (.int .u8 a1))), (4, .p (.c (.nilsl))), (5, iI r1.1)], [.box [.str a2, ci r2.1, ci r2.2, .str a5, .fn 121 [(1, 0), (2, 0)], .fn 124 [(2, 0)]], .box [.vw none tyI a6], .box [.sl 4], .dead, .row tyIII r1.2.2.2]⟩ [] trivial ?_ ?_
 refine .seq ?_
 refine .uB [0] [1, 2] [] [] rfl trivial ?_ ?_
 obtain ⟨r3, h6, hF⟩ := bindE hF
 refine .uC false [.whole 0, .whole 1, .whole 2, .whole 4] (hq_impl_reader_read_0f1e a2 r2.1 r2.2 a5 a6 r1.2.2.2 r3 h6) rfl ?_ ?_
 refine .xE [] (some ([0, 1, 2, 3, 5], [0, 1, 4, 5, 6])) ⟨[(0, pT 0 0), (1, .p (.c (.int .u8 a1))), (4, .p (.c (.nilsl))), (5, iI r1.1), (6, iI r3.1)], [.box [.str a2, ci r3.2.1, ci r3.2.2.1, .str a5, .fn 121 [(1, 0), (2, 0)], .fn 124 [(2, 0)]], .box [.vw none tyI a6], .box [.sl 4], .dead, .row tyIII r3.2.2.2]⟩ [] trivial ?_ ?_
 refine .seq ?_
 refine .uB [0, 1] [2] [] [] rfl trivial ?_ ?_
 obtain ⟨r4, h5, hF⟩ := bindE hF
 refine .uC false [.whole 0, .whole 1, .whole 2, .whole 4] (S_impl_reader_take_32e8 k a1 a2 r3.2.1 r3.2.2.1 a5 a6 r3.2.2.2 r4 h5) rfl ?_ ?_
 refine .vE [] (some ([0, 1, 2, 3, 4], [4, 5, 6])) [] trivial ?_ ?_
 refine .seq ?_
 refine .vW [.el tyI 0] (some ([0, 1, 2, 3, 5, 4], [4])) [] trivial ?_ ?_
 cases hF
 exact .xR hE [] [0, 1, 2, 3, 4, 5] (by kernel_rfl)
 all_goals kernel_rfl
theorem S_impl_Pool_isTerm_3ca5 (k : Nat) (a1 : Int) (a2 : (List (Int × (Int × Int)))) (r : Bool) (hF : F_impl_Pool_isTerm_3ca5 k a1 a2 = some r) : Spec Tryz.prog 84 [pT 0 0, iI a1] [.box [.sl 1], .row tyIII a2] (bB r) [.box [.sl 1], .row tyIII a2] := by
 refine Spec.of 2 13 Tryz.func84 rfl rfl (Nat.le_of_ble_eq_true rfl) rfl fun w0 S0 Z0 M0 R0 hE => ?_
 unfold F_impl_Pool_isTerm_3ca5 at hF
 refine .seq ?_
 refine .xW [] none ⟨[(4, bB false), (0, pT 0 0), (1, iI a1)], [.box [.sl 1], .row tyIII a2]⟩ [] trivial ?_ ?_
 refine .seq ?_
 refine .uB [0, 1, 2, 3, 4, 5, 6] [7, 8] [] [] rfl trivial ?_ ?_
 obtain ⟨r1, h2, hF⟩ := bindE hF
 refine .uC false [] (S_impl_inRange k a1 0 (w64 ((a2.length : Int) - 1)) r1 h2) rfl ?_ ?_
 refine .vE [] (some ([0, 1], [4])) [] trivial ?_ ?_
 cases hF
 exact .xR hE [] [0, 1] (by kernel_rfl)
 all_goals kernel_rfl
theorem S_impl_Pool_raise_7f23 (k : Nat) (a1 : Int) (a2 : Int) (a3 : (List (Int × (Int × Int)))) (r : Int × (List (Int × (Int × Int)))) (hF : F_impl_Pool_raise_7f23 k a1 a2 a3 = some r) : Spec Tryz.prog 150 [pT 0 0, iI a1, iI a2] [.box [.sl 1], .row tyIII a3] (iI r.1) [.box [.sl 2], .dead, .row tyIII r.2] := by
 refine Spec.of 2 39 Tryz.func150 rfl rfl (Nat.le_of_ble_eq_true rfl) rfl fun w0 S0 Z0 M0 R0 hE => ?_
 unfold F_impl_Pool_raise_7f23 at hF
 refine .seq ?_
 refine .xW [] none ⟨[(6, iI 0), (0, pT 0 0), (1, iI a1), (2, iI a2)], [.box [.sl 1], .row tyIII a3]⟩ [] trivial ?_ ?_
 refine .seq ?_
 refine .seq ?_
 refine WT.join (f := fun v5 => F_impl_Pool_raise_7f23_J1 k a1 a2 a3 v5) (r := r) (S := fun v5 => ⟨[(0, pT 0 0), (1, iI a1), (2, iI a2), (6, iI 0), (27, bB v5)], [.box [.sl 1], .row tyIII a3]⟩) (fun v5 hF => ?_) (fun hJJ1 => ?_)
 ·
  unfold F_impl_Pool_raise_7f23_J1 at hF
  rcases condE hF with ⟨he, hF⟩ | ⟨he, hF⟩
  ·
   refine .xT he ?_ ?_
   refine .seq ?_
   refine .vW [] (some ([0, 1], [0, 1, 2, 6])) [] trivial ?_ ?_
   cases hF
   exact .xR hE [.mv 1] [0, 1, 2] (by kernel_rfl)
   all_goals kernel_rfl
  ·
   refine .xF he ?_ ?_
   refine .skip ?_
   refine .seq ?_
   obtain ⟨x7, h9, hF⟩ := bindE hF
   refine .uB [0, 1, 2, 3, 4, 5, 6, 7, 8, 9] [10, 11] [.el tyIII x7] [at? a3 a1 = some x7] rfl ⟨h9, trivial⟩ ?_ ?_
   obtain ⟨r8, h10, hF⟩ := bindE hF
   refine .uS [.pick [0, 1] [37, 34, 33, 32, 31, 30, 29, 28, 0, 1, 2, 6, 27]] ?_ ?_
   refine .uC false [.whole 0, .whole 1] (S_impl_Pool_add_20d6 k 8 a2 x7.2.1 a3 r8 h10) rfl ?_ ?_
   refine .vE [] (some ([0, 1, 2], [6])) [] trivial ?_ ?_
   cases hF
   exact .xR hE [] [0, 1, 2] (by kernel_rfl)
   all_goals kernel_rfl
  all_goals kernel_rfl
 ·
  refine .uB [0, 1] [2, 3, 4, 5, 6, 7, 8, 9, 10, 11, 12, 13, 14, 15, 16, 17, 18, 19, 20] [] [] rfl trivial ?_ ?_
  obtain ⟨r2, h13, hF⟩ := bindE hF
  refine .uC false [.whole 0, .whole 1] (S_impl_Pool_isTerm_3ca5 k a1 a3 r2 h13) rfl ?_ ?_
  refine .uN [3, 4] [5, 6, 7, 8, 9, 10, 11, 12, 13, 14, 15, 16, 17, 18, 19, 20] [] [] rfl trivial ?_ ?_
  rcases condE hF with ⟨he, hF⟩ | ⟨he, hF⟩
  ·
   refine WT.putB [11, 10] he ?_ ?_
   refine .vE [] (some ([0, 1], [0, 1, 2, 6, 27])) [] trivial ?_ ?_
   exact .xS [.pick [0, 1] [0, 1, 2, 6, 27]] (hJJ1 (true) hF) (by kernel_rfl)
   all_goals kernel_rfl
  ·
   refine WT.putB [11, 10] he ?_ ?_
   refine .uN [5, 6] [7, 8, 9, 10, 11, 12, 13, 14, 15, 16, 17, 18, 19, 20] [] [] rfl trivial ?_ ?_
   obtain ⟨r3, h12, hF⟩ := bindE hF
   refine .uC false [.whole 0, .whole 1] (S_impl_Pool_isTerm_3ca5 k a2 a3 r3 h12) rfl ?_ ?_
   refine .uN [8, 9, 10] [11, 12, 13, 14, 15, 16, 17, 18, 19, 20] [] [] rfl trivial ?_ ?_
   rcases condE hF with ⟨he, hF⟩ | ⟨he, hF⟩
   ·
    refine WT.putB [17, 16, 15] he ?_ ?_
    refine .vE [] (some ([0, 1], [0, 1, 2, 6, 27])) [] trivial ?_ ?_
    exact .xS [.pick [0, 1] [0, 1, 2, 6, 27]] (hJJ1 (true) hF) (by kernel_rfl)
    all_goals kernel_rfl
   ·
    refine WT.putB [17, 16, 15] he ?_ ?_
    obtain ⟨x4, h11, hF⟩ := bindE hF
    refine .vE [.el tyIII x4] (some ([0, 1], [0, 1, 2, 6, 27])) [at? a3 a1 = some x4] ⟨h11, trivial⟩ ?_ ?_
    exact .xS [.pick [0, 1] [0, 1, 2, 6, 27]] (hJJ1 (x4.1 != 7) hF) (by kernel_rfl)
    all_goals kernel_rfl
   all_goals kernel_rfl
  all_goals kernel_rfl
 all_goals kernel_rfl
theorem S_impl_reader_opened_50c8 (k : Nat) (a1 : Int) (a2 : (List Int)) (a3 : ByteArray) (a4 : Int) (a5 : Int) (a6 : ByteArray) (a7 : (List Int)) (a8 : (List (Int × (Int × Int)))) (r : Int × Int × Int × (List (Int × (Int × Int)))) (hF : F_impl_reader_opened_50c8 k a1 a2 a3 a4 a5 a6 a7 a8 = some r) : Spec Tryz.prog 126 [pT 0 0, pT 2 0, .p (.c (.int .u8 a1)), vV none tyI a2] [.box [.str a3, ci a4, ci a5, .str a6, .fn 121 [(1, 0), (2, 0)], .fn 124 [(2, 0)]], .box [.vw none tyI a7], .box [.sl 3], .row tyIII a8] (iI r.1) [.box [.str a3, ci r.2.1, ci r.2.2.1, .str a6, .fn 121 [(1, 0), (2, 0)], .fn 124 [(2, 0)]], .box [.vw none tyI a7], .box [.sl 4], .dead, .row tyIII r.2.2.2] := by
 refine Spec.of 4 99 Tryz.func126 rfl rfl (Nat.le_of_ble_eq_true rfl) rfl fun w0 S0 Z0 M0 R0 hE => ?_
 unfold F_impl_reader_opened_50c8 at hF
 refine .seq ?_
 refine .xW [] none ⟨[(8, iI 0), (0, pT 0 0), (1, pT 2 0), (2, .p (.c (.int .u8 a1))), (3, vV none tyI a2)], [.box [.str a3, ci a4, ci a5, .str a6, .fn 121 [(1, 0), (2, 0)], .fn 124 [(2, 0)]], .box [.vw none tyI a7], .box [.sl 3], .row tyIII a8]⟩ [] trivial ?_ ?_
 refine .seq ?_
 obtain ⟨x2, h4, hF⟩ := bindE hF
 obtain ⟨x3, h5, hF⟩ := bindE hF
 refine WA.xs [.cells 2 0 1, .dep (some 3), .dep none] [] ?_ ?_
 refine WA.fin 11 [.el tyI x2, .el tyIII x3] [at? a2 0 = some x2, at? a8 x2 = some x3] (some ([0, 1, 2, 3, 4], [0, 1, 2, 3, 8, 9])) ⟨[(0, pT 0 0), (1, pT 2 0), (2, .p (.c (.int .u8 a1))), (3, vV none tyI a2), (8, iI 0), (9, pT 4 0)], [.box [.str a3, ci a4, ci a5, .str a6, .fn 121 [(1, 0), (2, 0)], .fn 124 [(2, 0)]], .box [.vw none tyI a7], .box [.sl 3], .row tyIII a8, .box [ci x3.1, ci x3.2.1, ci x3.2.2]]⟩ ⟨h4, h5, trivial⟩ ?_ ?_
 refine .seq ?_
 refine .block ?_
 refine .seq ?_
 refine WT.join (f := fun v8 => F_impl_reader_opened_50c8_J7 k a1 a2 a3 x3 a4 a5 a6 a7 a8 v8) (r := r) (S := fun v8 => ⟨[(0, pT 0 0), (1, pT 2 0), (2, .p (.c (.int .u8 a1))), (3, vV none tyI a2), (8, iI 0), (9, pT 4 0), (19, bB v8)], [.box [.str a3, ci a4, ci a5, .str a6, .fn 121 [(1, 0), (2, 0)], .fn 124 [(2, 0)]], .box [.vw none tyI a7], .box [.sl 3], .row tyIII a8, .box [ci x3.1, ci x3.2.1, ci x3.2.2]]⟩) (fun v8 hF => ?_) (fun hJJ7 => ?_)
 ·
  unfold F_impl_reader_opened_50c8_J7 at hF
  rcases condE hF with ⟨he, hF⟩ | ⟨he, hF⟩
  ·
   refine .xT he ?_ ?_
   refine .seq ?_
   refine .vW [] (some ([0, 1, 2, 3], [0, 8])) [] trivial ?_ ?_
   cases hF
   exact .xR hE [.mv 3] [0, 1, 2, 3, 4] (by kernel_rfl)
   all_goals kernel_rfl
  ·
   refine .xF he ?_ ?_
   refine .seq ?_
   refine WT.join (f := fun v11 => F_impl_reader_opened_50c8_J10 k a1 a2 a3 x3 a4 a5 a6 a7 a8 v11) (r := r) (S := fun v11 => ⟨[(0, pT 0 0), (1, pT 2 0), (2, .p (.c (.int .u8 a1))), (3, vV none tyI a2), (8, iI 0), (9, pT 4 0), (29, bB v11)], [.box [.str a3, ci a4, ci a5, .str a6, .fn 121 [(1, 0), (2, 0)], .fn 124 [(2, 0)]], .box [.vw none tyI a7], .box [.sl 3], .row tyIII a8, .box [ci x3.1, ci x3.2.1, ci x3.2.2]]⟩) (fun v11 hF => ?_) (fun hJJ10 => ?_)
   ·
    unfold F_impl_reader_opened_50c8_J10 at hF
    rcases condE hF with ⟨he, hF⟩ | ⟨he, hF⟩
    ·
     refine .xT he ?_ ?_
     refine .seq ?_
     refine .vW [] (some ([0, 1, 2, 3], [0, 8])) [] trivial ?_ ?_
     cases hF
     exact .xR hE [.mv 3] [0, 1, 2, 3, 4] (by kernel_rfl)
     all_goals kernel_rfl
    ·
     refine .xF he ?_ ?_
     refine .seq ?_
     refine WT.join (f := fun v14 => F_impl_reader_opened_50c8_J13 k a1 a2 a3 x3 a4 a5 a6 a7 a8 v14) (r := r) (S := fun v14 => ⟨[(0, pT 0 0), (1, pT 2 0), (2, .p (.c (.int .u8 a1))), (3, vV none tyI a2), (8, iI 0), (9, pT 4 0), (39, bB v14)], [.box [.str a3, ci a4, ci a5, .str a6, .fn 121 [(1, 0), (2, 0)], .fn 124 [(2, 0)]], .box [.vw none tyI a7], .box [.sl 3], .row tyIII a8, .box [ci x3.1, ci x3.2.1, ci x3.2.2]]⟩) (fun v14 hF => ?_) (fun hJJ13 => ?_)
     ·
      unfold F_impl_reader_opened_50c8_J13 at hF
      rcases condE hF with ⟨he, hF⟩ | ⟨he, hF⟩
      ·
       refine .xT he ?_ ?_
       refine .seq ?_
       refine .vW [] (some ([0, 1, 2, 3], [0, 8])) [] trivial ?_ ?_
       cases hF
       exact .xR hE [.mv 3] [0, 1, 2, 3, 4] (by kernel_rfl)
       all_goals kernel_rfl
      ·
       refine .xF he ?_ ?_
       refine .seq ?_
       refine WT.join (f := fun v18 => F_impl_reader_opened_50c8_J16 k a1 a2 a3 x3 a4 a5 a6 a7 a8 v18) (r := r) (S := fun v18 => ⟨[(0, pT 0 0), (1, pT 2 0), (2, .p (.c (.int .u8 a1))), (3, vV none tyI a2), (8, iI 0), (9, pT 4 0), (49, bB v18)], [.box [.str a3, ci a4, ci a5, .str a6, .fn 121 [(1, 0), (2, 0)], .fn 124 [(2, 0)]], .box [.vw none tyI a7], .box [.sl 3], .row tyIII a8, .box [ci x3.1, ci x3.2.1, ci x3.2.2]]⟩) (fun v18 hF => ?_) (fun hJJ16 => ?_)
       ·
        unfold F_impl_reader_opened_50c8_J16 at hF
        rcases condE hF with ⟨he, hF⟩ | ⟨he, hF⟩
        ·
         refine .xT he ?_ ?_
         refine .seq ?_
         refine .vW [] (some ([0, 1, 2, 3], [0, 8])) [] trivial ?_ ?_
         cases hF
         exact .xR hE [.mv 3] [0, 1, 2, 3, 4] (by kernel_rfl)
         all_goals kernel_rfl
        ·
         refine .xF he ?_ ?_
         refine .seq ?_
         refine WT.join (f := fun v23 => F_impl_reader_opened_50c8_J20 k a2 a3 a4 a5 a6 a7 a8 v23) (r := r) (S := fun v23 => ⟨[(0, pT 0 0), (1, pT 2 0), (3, vV none tyI a2), (8, iI 0), (67, bB v23)], [.box [.str a3, ci a4, ci a5, .str a6, .fn 121 [(1, 0), (2, 0)], .fn 124 [(2, 0)]], .box [.vw none tyI a7], .box [.sl 3], .row tyIII a8]⟩) (fun v23 hF => ?_) (fun hJJ20 => ?_)
         ·
          unfold F_impl_reader_opened_50c8_J20 at hF
          rcases condE hF with ⟨he, hF⟩ | ⟨he, hF⟩
          ·
           refine .xT he ?_ ?_
           refine .seq ?_
           obtain ⟨x26, h30, hF⟩ := bindE hF
           obtain ⟨x27, h31, hF⟩ := bindE hF
           obtain ⟨r28, h32, hF⟩ := bindE hF
           obtain ⟨r29, h33, hF⟩ := bindE hF
           refine WA.xs [.dep none] [.cells 0 0 6, .cells 1 0 1, .cells 2 0 1, .dep (some 3)] ?_ ?_
           refine WA.lem (pr' := []) (fuel' := 0) (listed' := #[true, true, true, true, true, true, true, true, true, true, true]) (st' := ⟨[(0, pT 0 0), (1, pT 2 0), (8, iI r29.1)], [.box [.str a3, ci r29.2.1, ci r29.2.2, .str a6, .fn 121 [(1, 0), (2, 0)], .fn 124 [(2, 0)]], .box [.vw none tyI a7], .box [.sl 4], .dead, .row tyIII r28.2]⟩) ?_ (fun A37 => ?_)
           ·
            refine WA.xD none ⟨[(0, pT 0 0), (1, pT 2 0), (8, iI r29.1)], [.box [.str a3, ci r29.2.1, ci r29.2.2, .str a6, .fn 121 [(1, 0), (2, 0)], .fn 124 [(2, 0)]], .box [.vw none tyI a7], .box [.sl 4], .dead, .row tyIII r28.2]⟩ ?_ ?_
            cases hF
            exact .xR hE [] [0, 1, 2, 3, 4] (by kernel_rfl)
            all_goals kernel_rfl
           refine WA.lem (pr' := []) (fuel' := 2) (listed' := #[true, true, true, true, true, true, true, true, true, false, false]) (st' := ⟨[(0, pT 0 0), (1, pT 2 0), (8, iI 0), (83, pT 0 0), (91, iI r28.1)], [.box [.str a3, ci a4, ci a5, .str a6, .fn 121 [(1, 0), (2, 0)], .fn 124 [(2, 0)]], .box [.vw none tyI a7], .box [.sl 4], .dead, .row tyIII r28.2]⟩) ?_ (fun A36 => ?_)
           ·
            refine WA.x1 9 (WO.uC false [.whole 0, .whole 1, .whole 2, .whole 4] [] (S_impl_reader_orFull_51fc k r28.1 a3 a4 a5 a6 a7 r28.2 r29 h33) rfl ?_ ?_) ?_
            exact WA.to 1 [] [] [0, 1, 2, 3, 4] [0, 1, 8] A37 trivial (by kernel_rfl)
            all_goals kernel_rfl
           refine WA.lem (pr' := [.dep none]) (fuel' := 3) (listed' := #[true, true, true, true, true, true, true, true, false, false, false]) (st' := ⟨[(0, pT 0 0), (1, pT 2 0), (8, iI 0), (83, pT 0 0), (84, pT 2 0), (87, iI x26), (90, iI x27)], [.box [.str a3, ci a4, ci a5, .str a6, .fn 121 [(1, 0), (2, 0)], .fn 124 [(2, 0)]], .box [.vw none tyI a7], .box [.sl 3], .row tyIII a8]⟩) ?_ (fun A35 => ?_)
           ·
            refine WA.x1 8 (WO.uC false [.whole 2, .whole 3] [] (S_impl_Pool_raise_7f23 k x26 x27 a8 r28 h32) rfl ?_ ?_) ?_
            exact WA.to 0 [] [] [0, 1, 2, 3, 4] [0, 1, 8, 83, 91] A36 trivial (by kernel_rfl)
            all_goals kernel_rfl
           exact WA.to 8 [.el tyI x26, .el tyI x27] [at? a2 1 = some x26, at? a2 0 = some x27] [0, 1, 2, 3] [0, 1, 8, 83, 84, 87, 90] A35 ⟨h30, h31, trivial⟩ (by kernel_rfl)
           all_goals kernel_rfl
          ·
           refine .xF he ?_ ?_
           refine .skip ?_
           refine .inBlock ?_
           refine .seq ?_
           refine .uB [0, 1, 2, 3, 4] [5, 6] [] [] rfl trivial ?_ ?_
           obtain ⟨r34, h38, hF⟩ := bindE hF
           refine .uC false [.whole 0, .whole 1, .whole 2, .whole 3] (S_impl_reader_fail_8d05 k 7 a4 a3 a4 a5 a6 a7 a8 r34 h38) rfl ?_ ?_
           refine .vE [] (some ([0, 1, 2, 3], [8])) [] trivial ?_ ?_
           cases hF
           exact .xR hE [.mv 3] [0, 1, 2, 3, 4] (by kernel_rfl)
           all_goals kernel_rfl
          all_goals kernel_rfl
         ·
          refine WA.xs [.cells 2 0 1, .dep (some 3), .dep none] [] ?_ ?_
          refine WA.uR (fuel' := 13) (listed' := #[true, true, true, false, false, false, false, false, false, false, false, false, false, false, false, false]) 3 [] [] trivial ?_ ?_
          rcases condE hF with ⟨he, hF⟩ | ⟨he, hF⟩
          ·
           refine WA.putB [70, 69] he ?_ ?_
           obtain ⟨x21, h39, hF⟩ := bindE hF
           obtain ⟨x22, h40, hF⟩ := bindE hF
           refine WA.fin 13 [.el tyI x21, .el tyIII x22] [at? a2 1 = some x21, at? a8 x21 = some x22] (some ([0, 1, 2, 3], [0, 1, 3, 8, 67])) ⟨[(0, pT 0 0), (1, pT 2 0), (3, vV none tyI a2), (8, iI 0), (67, bB (x22.1 == 7))], [.box [.str a3, ci a4, ci a5, .str a6, .fn 121 [(1, 0), (2, 0)], .fn 124 [(2, 0)]], .box [.vw none tyI a7], .box [.sl 3], .row tyIII a8]⟩ ⟨h39, h40, trivial⟩ ?_ ?_
           exact .xS [.pick [0, 1, 2, 3] [0, 1, 3, 8, 67]] (hJJ20 (x22.1 == 7) hF) (by kernel_rfl)
           all_goals kernel_rfl
          ·
           refine WA.putB [70, 69] he ?_ ?_
           refine WA.fin 13 [] [] (some ([0, 1, 2, 3], [0, 1, 3, 8, 67])) ⟨[(0, pT 0 0), (1, pT 2 0), (3, vV none tyI a2), (8, iI 0), (67, bB false)], [.box [.str a3, ci a4, ci a5, .str a6, .fn 121 [(1, 0), (2, 0)], .fn 124 [(2, 0)]], .box [.vw none tyI a7], .box [.sl 3], .row tyIII a8]⟩ trivial ?_ ?_
           exact .xS [.pick [0, 1, 2, 3] [0, 1, 3, 8, 67]] (hJJ20 (false) hF) (by kernel_rfl)
           all_goals kernel_rfl
          all_goals kernel_rfl
         all_goals kernel_rfl
        all_goals kernel_rfl
       ·
        refine WA.xs [.cells 4 0 1, .cells 4 2 1, .dep none] [] ?_ ?_
        refine WA.uR (fuel' := 13) (listed' := #[true, true, true, false, false, false, false, false, false, false, false, false, false, false, false, false]) 3 [] [] trivial ?_ ?_
        rcases condE hF with ⟨he, hF⟩ | ⟨he, hF⟩
        ·
         refine WA.putB [52, 51] he ?_ ?_
         refine WA.uR (fuel' := 8) (listed' := #[true, true, true, true, true, true, true, true, false, false, false, false, false, false, false, false]) 5 [] [] trivial ?_ ?_
         rcases condE hF with ⟨he, hF⟩ | ⟨he, hF⟩
         ·
          refine WA.putB [57, 56, 55] he ?_ ?_
          obtain ⟨x17, h41, hF⟩ := bindE hF
          refine WA.fin 8 [.el tyI x17] [at? a2 1 = some x17] (some ([0, 1, 2, 3, 4], [0, 1, 2, 3, 8, 9, 49])) ⟨[(0, pT 0 0), (1, pT 2 0), (2, .p (.c (.int .u8 a1))), (3, vV none tyI a2), (8, iI 0), (9, pT 4 0), (49, bB (x3.2.2 == x17))], [.box [.str a3, ci a4, ci a5, .str a6, .fn 121 [(1, 0), (2, 0)], .fn 124 [(2, 0)]], .box [.vw none tyI a7], .box [.sl 3], .row tyIII a8, .box [ci x3.1, ci x3.2.1, ci x3.2.2]]⟩ ⟨h41, trivial⟩ ?_ ?_
          exact .xS [.pick [0, 1, 2, 3, 4] [0, 1, 2, 3, 8, 9, 49]] (hJJ16 (x3.2.2 == x17) hF) (by kernel_rfl)
          all_goals kernel_rfl
         ·
          refine WA.putB [57, 56, 55] he ?_ ?_
          refine WA.fin 8 [] [] (some ([0, 1, 2, 3, 4], [0, 1, 2, 3, 8, 9, 49])) ⟨[(0, pT 0 0), (1, pT 2 0), (2, .p (.c (.int .u8 a1))), (3, vV none tyI a2), (8, iI 0), (9, pT 4 0), (49, bB false)], [.box [.str a3, ci a4, ci a5, .str a6, .fn 121 [(1, 0), (2, 0)], .fn 124 [(2, 0)]], .box [.vw none tyI a7], .box [.sl 3], .row tyIII a8, .box [ci x3.1, ci x3.2.1, ci x3.2.2]]⟩ trivial ?_ ?_
          exact .xS [.pick [0, 1, 2, 3, 4] [0, 1, 2, 3, 8, 9, 49]] (hJJ16 (false) hF) (by kernel_rfl)
          all_goals kernel_rfl
         all_goals kernel_rfl
        ·
         refine WA.putB [52, 51] he ?_ ?_
         refine WA.fin 13 [] [] (some ([0, 1, 2, 3, 4], [0, 1, 2, 3, 8, 9, 49])) ⟨[(0, pT 0 0), (1, pT 2 0), (2, .p (.c (.int .u8 a1))), (3, vV none tyI a2), (8, iI 0), (9, pT 4 0), (49, bB false)], [.box [.str a3, ci a4, ci a5, .str a6, .fn 121 [(1, 0), (2, 0)], .fn 124 [(2, 0)]], .box [.vw none tyI a7], .box [.sl 3], .row tyIII a8, .box [ci x3.1, ci x3.2.1, ci x3.2.2]]⟩ trivial ?_ ?_
         exact .xS [.pick [0, 1, 2, 3, 4] [0, 1, 2, 3, 8, 9, 49]] (hJJ16 (false) hF) (by kernel_rfl)
         all_goals kernel_rfl
        all_goals kernel_rfl
       all_goals kernel_rfl
      all_goals kernel_rfl
     ·
      refine .uB [0, 1, 2] [3, 4, 5, 6, 7] [] [] rfl trivial ?_ ?_
      rcases condE hF with ⟨he, hF⟩ | ⟨he, hF⟩
      ·
       refine WT.putB [42, 41] he ?_ ?_
       refine .vE [] (some ([0, 1, 2, 3, 4], [0, 1, 2, 3, 8, 9, 39])) [] trivial ?_ ?_
       exact .xS [.pick [0, 1, 2, 3, 4] [0, 1, 2, 3, 8, 9, 39]] (hJJ13 (x3.1 == 4) hF) (by kernel_rfl)
       all_goals kernel_rfl
      ·
       refine WT.putB [42, 41] he ?_ ?_
       refine .vE [] (some ([0, 1, 2, 3, 4], [0, 1, 2, 3, 8, 9, 39])) [] trivial ?_ ?_
       exact .xS [.pick [0, 1, 2, 3, 4] [0, 1, 2, 3, 8, 9, 39]] (hJJ13 (false) hF) (by kernel_rfl)
       all_goals kernel_rfl
      all_goals kernel_rfl
     all_goals kernel_rfl
    all_goals kernel_rfl
   ·
    refine .uB [0, 1, 2] [3, 4, 5, 6, 7] [] [] rfl trivial ?_ ?_
    rcases condE hF with ⟨he, hF⟩ | ⟨he, hF⟩
    ·
     refine WT.putB [32, 31] he ?_ ?_
     refine .vE [] (some ([0, 1, 2, 3, 4], [0, 1, 2, 3, 8, 9, 29])) [] trivial ?_ ?_
     exact .xS [.pick [0, 1, 2, 3, 4] [0, 1, 2, 3, 8, 9, 29]] (hJJ10 (x3.1 == 2) hF) (by kernel_rfl)
     all_goals kernel_rfl
    ·
     refine WT.putB [32, 31] he ?_ ?_
     refine .vE [] (some ([0, 1, 2, 3, 4], [0, 1, 2, 3, 8, 9, 29])) [] trivial ?_ ?_
     exact .xS [.pick [0, 1, 2, 3, 4] [0, 1, 2, 3, 8, 9, 29]] (hJJ10 (false) hF) (by kernel_rfl)
     all_goals kernel_rfl
    all_goals kernel_rfl
   all_goals kernel_rfl
  all_goals kernel_rfl
 ·
  refine .uB [0, 1, 2] [3, 4, 5, 6, 7] [] [] rfl trivial ?_ ?_
  rcases condE hF with ⟨he, hF⟩ | ⟨he, hF⟩
  ·
   refine WT.putB [22, 21] he ?_ ?_
   refine .vE [] (some ([0, 1, 2, 3, 4], [0, 1, 2, 3, 8, 9, 19])) [] trivial ?_ ?_
   exact .xS [.pick [0, 1, 2, 3, 4] [0, 1, 2, 3, 8, 9, 19]] (hJJ7 (x3.1 == 2) hF) (by kernel_rfl)
   all_goals kernel_rfl
  ·
   refine WT.putB [22, 21] he ?_ ?_
   refine .vE [] (some ([0, 1, 2, 3, 4], [0, 1, 2, 3, 8, 9, 19])) [] trivial ?_ ?_
   exact .xS [.pick [0, 1, 2, 3, 4] [0, 1, 2, 3, 8, 9, 19]] (hJJ7 (false) hF) (by kernel_rfl)
   all_goals kernel_rfl
  all_goals kernel_rfl
 all_goals kernel_rfl
theorem S_impl_kindOf (k : Nat) (a1 : Int) (r : Int) (hF : F_impl_kindOf k a1 = some r) : Spec Tryz.prog 151 [.p (.c (.int .u8 a1))] [] (iI r) [] := by
 refine Spec.of 0 16 Tryz.func151 rfl rfl (Nat.le_of_ble_eq_true rfl) rfl fun w0 S0 Z0 M0 R0 hE => ?_
 unfold F_impl_kindOf at hF
 refine .seq ?_
 refine .vW [] none [] trivial ?_ ?_
 refine .seq ?_
 refine .seq ?_
 refine .vW [] (some ([], [2, 3])) [] trivial ?_ ?_
 refine .block ?_
 refine .seq ?_
 refine .xW [] (some ([], [2, 3, 4])) ⟨[(2, iI 0), (3, .p (.c (.int .u8 a1))), (4, bB (a1 == 40))], []⟩ [] trivial ?_ ?_
 rcases condE hF with ⟨he, hF⟩ | ⟨he, hF⟩
 ·
  refine .xT he ?_ ?_
  refine .seq ?_
  refine .vW [] (some ([], [2])) [] trivial ?_ ?_
  cases hF
  exact .xR hE [] [] (by kernel_rfl)
  all_goals kernel_rfl
 ·
  refine .xF he ?_ ?_
  refine .seq ?_
  refine .xW [] (some ([], [2, 3, 6])) ⟨[(2, iI 0), (3, .p (.c (.int .u8 a1))), (6, bB (a1 == 123))], []⟩ [] trivial ?_ ?_
  rcases condE hF with ⟨he, hF⟩ | ⟨he, hF⟩
  ·
   refine .xT he ?_ ?_
   refine .seq ?_
   refine .vW [] (some ([], [2])) [] trivial ?_ ?_
   cases hF
   exact .xR hE [] [] (by kernel_rfl)
   all_goals kernel_rfl
  ·
   refine .xF he ?_ ?_
   refine .seq ?_
   refine .xW [] (some ([], [2, 3, 8])) ⟨[(2, iI 0), (3, .p (.c (.int .u8 a1))), (8, bB (a1 == 91))], []⟩ [] trivial ?_ ?_
   rcases condE hF with ⟨he, hF⟩ | ⟨he, hF⟩
   ·
    refine .xT he ?_ ?_
    refine .seq ?_
    refine .vW [] (some ([], [2])) [] trivial ?_ ?_
    cases hF
    exact .xR hE [] [] (by kernel_rfl)
    all_goals kernel_rfl
   ·
    refine .xF he ?_ ?_
    refine .seq ?_
    refine .xW [] (some ([], [2, 3, 10])) ⟨[(2, iI 0), (3, .p (.c (.int .u8 a1))), (10, bB (a1 == 35))], []⟩ [] trivial ?_ ?_
    rcases condE hF with ⟨he, hF⟩ | ⟨he, hF⟩
    ·
     refine .xT he ?_ ?_
     refine .seq ?_
     refine .vW [] (some ([], [2])) [] trivial ?_ ?_
     cases hF
     exact .xR hE [] [] (by kernel_rfl)
     all_goals kernel_rfl
    ·
     refine .xF he ?_ ?_
     refine .seq ?_
     refine .xW [] (some ([], [2, 3, 12])) ⟨[(2, iI 0), (3, .p (.c (.int .u8 a1))), (12, bB (a1 == 107))], []⟩ [] trivial ?_ ?_
     rcases condE hF with ⟨he, hF⟩ | ⟨he, hF⟩
     ·
      refine .xT he ?_ ?_
      refine .seq ?_
      refine .vW [] (some ([], [2])) [] trivial ?_ ?_
      cases hF
      exact .xR hE [] [] (by kernel_rfl)
      all_goals kernel_rfl
     ·
      refine .xF he ?_ ?_
      refine .seq ?_
      refine .xW [] (some ([], [2, 14])) ⟨[(2, iI 0), (14, bB (a1 == 94))], []⟩ [] trivial ?_ ?_
      rcases condE hF with ⟨he, hF⟩ | ⟨he, hF⟩
      ·
       refine .xT he ?_ ?_
       refine .seq ?_
       refine .vW [] (some ([], [2])) [] trivial ?_ ?_
       cases hF
       exact .xR hE [] [] (by kernel_rfl)
       all_goals kernel_rfl
      ·
       refine .xF he ?_ ?_
       refine .skip ?_
       refine .inBlock ?_
       refine .seq ?_
       refine .vW [] (some ([], [2])) [] trivial ?_ ?_
       cases hF
       exact .xR hE [] [] (by kernel_rfl)
       all_goals kernel_rfl
      all_goals kernel_rfl
     all_goals kernel_rfl
    all_goals kernel_rfl
   all_goals kernel_rfl
  all_goals kernel_rfl
 all_goals kernel_rfl
theorem S_impl_reader_added_50c8 (k : Nat) (a1 : Int) (a2 : (List Int)) (a3 : ByteArray) (a4 : Int) (a5 : Int) (a6 : ByteArray) (a7 : (List Int)) (a8 : (List (Int × (Int × Int)))) (r : Int × Int × Int × (List (Int × (Int × Int)))) (hF : F_impl_reader_added_50c8 k a1 a2 a3 a4 a5 a6 a7 a8 = some r) : Spec Tryz.prog 127 [pT 0 0, pT 2 0, .p (.c (.int .u8 a1)), vV none tyI a2] [.box [.str a3, ci a4, ci a5, .str a6, .fn 121 [(1, 0), (2, 0)], .fn 124 [(2, 0)]], .box [.vw none tyI a7], .box [.sl 3], .row tyIII a8] (iI r.1) [.box [.str a3, ci r.2.1, ci r.2.2.1, .str a6, .fn 121 [(1, 0), (2, 0)], .fn 124 [(2, 0)]], .box [.vw none tyI a7], .box [.sl 4], .dead, .row tyIII r.2.2.2] := by
 refine Spec.of 4 26 Tryz.func127 rfl rfl (Nat.le_of_ble_eq_true rfl) rfl fun w0 S0 Z0 M0 R0 hE => ?_
 unfold F_impl_reader_added_50c8 at hF
 refine .seq ?_
 refine .vW [] none [] trivial ?_ ?_
 refine .seq ?_
 refine .vW [] none [] trivial ?_ ?_
 refine .seq ?_
 refine .seq ?_
 refine .xW [] (some ([0, 1, 2, 3], [0, 1, 2, 3, 8, 9, 12])) ⟨[(0, pT 0 0), (1, pT 2 0), (2, .p (.c (.int .u8 a1))), (3, vV none tyI a2), (8, iI 0), (9, iI 0), (12, bB (decide ((a2.length : Int) > 1)))], [.box [.str a3, ci a4, ci a5, .str a6, .fn 121 [(1, 0), (2, 0)], .fn 124 [(2, 0)]], .box [.vw none tyI a7], .box [.sl 3], .row tyIII a8]⟩ [] trivial ?_ ?_
 refine WT.join (f := fun v3 => F_impl_reader_added_50c8_J1 k a1 a2 a3 a4 a5 a6 a7 a8 v3) (r := r) (S := fun v3 => ⟨[(0, pT 0 0), (1, pT 2 0), (2, .p (.c (.int .u8 a1))), (3, vV none tyI a2), (8, iI 0), (9, iI v3)], [.box [.str a3, ci a4, ci a5, .str a6, .fn 121 [(1, 0), (2, 0)], .fn 124 [(2, 0)]], .box [.vw none tyI a7], .box [.sl 3], .row tyIII a8]⟩) (fun v3 hF => ?_) (fun hJJ1 => ?_)
 ·
  unfold F_impl_reader_added_50c8_J1 at hF
  refine .seq ?_
  obtain ⟨r6, h9, hF⟩ := bindE hF
  obtain ⟨x5, h10, hF⟩ := bindE hF
  obtain ⟨r7, h11, hF⟩ := bindE hF
  obtain ⟨r8, h12, hF⟩ := bindE hF
  refine WA.xs [.dep none] [.cells 0 0 6, .cells 1 0 1, .cells 2 0 1, .dep (some 3)] ?_ ?_
  refine WA.lem (pr' := []) (fuel' := 0) (listed' := #[true, true, true, true, true, true, true, true, true, true, true]) (st' := ⟨[(2, .p (.c (.int .u8 a1))), (8, iI r8.1)], [.box [.str a3, ci r8.2.1, ci r8.2.2, .str a6, .fn 121 [(1, 0), (2, 0)], .fn 124 [(2, 0)]], .box [.vw none tyI a7], .box [.sl 4], .dead, .row tyIII r7.2]⟩) ?_ (fun A16 => ?_)
  ·
   refine WA.xD none ⟨[(2, .p (.c (.int .u8 a1))), (8, iI r8.1)], [.box [.str a3, ci r8.2.1, ci r8.2.2, .str a6, .fn 121 [(1, 0), (2, 0)], .fn 124 [(2, 0)]], .box [.vw none tyI a7], .box [.sl 4], .dead, .row tyIII r7.2]⟩ ?_ ?_
   cases hF
   exact .xR hE [] [0, 1, 2, 3, 4] (by kernel_rfl)
   all_goals kernel_rfl
  refine WA.lem (pr' := []) (fuel' := 2) (listed' := #[true, true, true, true, true, true, true, true, true, false, false]) (st' := ⟨[(2, .p (.c (.int .u8 a1))), (8, iI 0), (16, pT 0 0), (24, iI r7.1)], [.box [.str a3, ci a4, ci a5, .str a6, .fn 121 [(1, 0), (2, 0)], .fn 124 [(2, 0)]], .box [.vw none tyI a7], .box [.sl 4], .dead, .row tyIII r7.2]⟩) ?_ (fun A15 => ?_)
  ·
   refine WA.x1 9 (WO.uC false [.whole 0, .whole 1, .whole 2, .whole 4] [] (S_impl_reader_orFull_51fc k r7.1 a3 a4 a5 a6 a7 r7.2 r8 h12) rfl ?_ ?_) ?_
   exact WA.to 1 [] [] [0, 1, 2, 3, 4] [2, 8] A16 trivial (by kernel_rfl)
   all_goals kernel_rfl
  refine WA.lem (pr' := []) (fuel' := 3) (listed' := #[true, true, true, true, true, true, true, true, false, false, false]) (st' := ⟨[(2, .p (.c (.int .u8 a1))), (8, iI 0), (16, pT 0 0), (17, pT 2 0), (19, iI r6), (22, iI x5), (23, iI v3)], [.box [.str a3, ci a4, ci a5, .str a6, .fn 121 [(1, 0), (2, 0)], .fn 124 [(2, 0)]], .box [.vw none tyI a7], .box [.sl 3], .row tyIII a8]⟩) ?_ (fun A14 => ?_)
  ·
   refine WA.x1 8 (WO.uC false [.whole 2, .whole 3] [] (S_impl_Pool_add_20d6 k r6 x5 v3 a8 r7 h11) rfl ?_ ?_) ?_
   exact WA.to 0 [] [] [0, 1, 2, 3, 4] [2, 8, 16, 24] A15 trivial (by kernel_rfl)
   all_goals kernel_rfl
  refine WA.lem (pr' := [.dep none]) (fuel' := 4) (listed' := #[true, true, true, false, true, true, true, true, false, false, false]) (st' := ⟨[(2, .p (.c (.int .u8 a1))), (8, iI 0), (16, pT 0 0), (17, pT 2 0), (18, .p (.c (.int .u8 a1))), (22, iI x5), (23, iI v3)], [.box [.str a3, ci a4, ci a5, .str a6, .fn 121 [(1, 0), (2, 0)], .fn 124 [(2, 0)]], .box [.vw none tyI a7], .box [.sl 3], .row tyIII a8]⟩) ?_ (fun A13 => ?_)
  ·
   refine WA.x1 3 (WO.uC false [] [] (S_impl_kindOf k a1 r6 h9) rfl ?_ ?_) ?_
   exact WA.to 0 [] [] [0, 1, 2, 3] [2, 8, 16, 17, 19, 22, 23] A14 trivial (by kernel_rfl)
   all_goals kernel_rfl
  exact WA.to 7 [.el tyI x5] [at? a2 0 = some x5] [0, 1, 2, 3] [2, 8, 16, 17, 18, 22, 23] A13 ⟨h10, trivial⟩ (by kernel_rfl)
  all_goals kernel_rfl
 ·
  rcases condE hF with ⟨he, hF⟩ | ⟨he, hF⟩
  ·
   refine .xT he ?_ ?_
   obtain ⟨x2, h17, hF⟩ := bindE hF
   refine .vW [.el tyI x2] (some ([0, 1, 2, 3], [0, 1, 2, 3, 8, 9])) [at? a2 1 = some x2] ⟨h17, trivial⟩ ?_ ?_
   exact .xS [.pick [0, 1, 2, 3] [0, 1, 2, 3, 8, 9]] (hJJ1 (x2) hF) (by kernel_rfl)
   all_goals kernel_rfl
  ·
   refine .xF he ?_ ?_
   refine .skip ?_
   exact .xS [.pick [0, 1, 2, 3] [0, 1, 2, 3, 8, 9]] (hJJ1 (0) hF) (by kernel_rfl)
   all_goals kernel_rfl
  all_goals kernel_rfl
 all_goals kernel_rfl
theorem S_impl_RecipeRun_2_bfc8 (k : Nat) (a1 : Int) (a2 : (List Int)) (a3 : ByteArray) (a4 : Int) (a5 : Int) (a6 : ByteArray) (a7 : (List Int)) (a8 : (List (Int × (Int × Int)))) (r : Int × Int × Int × (List (Int × (Int × Int)))) (hF : F_impl_RecipeRun_2_bfc8 k a1 a2 a3 a4 a5 a6 a7 a8 = some r) : Spec Tryz.prog 124 [pT 0 0, .p (.c (.int .u8 a1)), vV none tyI a2, pT 2 0] [.box [.str a3, ci a4, ci a5, .str a6, .fn 121 [(1, 0), (2, 0)], .fn 124 [(2, 0)]], .box [.vw none tyI a7], .box [.sl 3], .row tyIII a8] (iI r.1) [.box [.str a3, ci r.2.1, ci r.2.2.1, .str a6, .fn 121 [(1, 0), (2, 0)], .fn 124 [(2, 0)]], .box [.vw none tyI a7], .box [.sl 4], .dead, .row tyIII r.2.2.2] := by
 refine Spec.of 4 18 Tryz.func124 rfl rfl (Nat.le_of_ble_eq_true rfl) rfl fun w0 S0 Z0 M0 R0 hE => ?_
 unfold F_impl_RecipeRun_2_bfc8 at hF
 refine .seq ?_
 refine .xW [] none ⟨[(7, iI 0), (0, pT 0 0), (1, .p (.c (.int .u8 a1))), (2, vV none tyI a2), (3, pT 2 0)], [.box [.str a3, ci a4, ci a5, .str a6, .fn 121 [(1, 0), (2, 0)], .fn 124 [(2, 0)]], .box [.vw none tyI a7], .box [.sl 3], .row tyIII a8]⟩ [] trivial ?_ ?_
 refine .seq ?_
 refine .seq ?_
 refine .uB [0] [1] [] [] rfl trivial ?_ ?_
 obtain ⟨r1, h7, hF⟩ := bindE hF
 refine .uC false [] (S_impl_isOneOf k a1 (⟨#[64, 60, 62, 33, 111, 120]⟩ : ByteArray) r1 h7) rfl ?_ ?_
 refine .xE [] (some ([0, 1, 2, 3], [0, 1, 2, 3, 7, 9])) ⟨[(0, pT 0 0), (1, .p (.c (.int .u8 a1))), (2, vV none tyI a2), (3, pT 2 0), (7, iI 0), (9, bB r1)], [.box [.str a3, ci a4, ci a5, .str a6, .fn 121 [(1, 0), (2, 0)], .fn 124 [(2, 0)]], .box [.vw none tyI a7], .box [.sl 3], .row tyIII a8]⟩ [] trivial ?_ ?_
 rcases condE hF with ⟨he, hF⟩ | ⟨he, hF⟩
 ·
  refine .xT he ?_ ?_
  refine .seq ?_
  refine .uB [0, 1, 2] [3, 4] [] [] rfl trivial ?_ ?_
  obtain ⟨r3, h5, hF⟩ := bindE hF
  refine .uC false [.whole 0, .whole 1, .whole 2, .whole 3] (S_impl_reader_opened_50c8 k a1 a2 a3 a4 a5 a6 a7 a8 r3 h5) rfl ?_ ?_
  refine .vE [] (some ([0, 1, 2, 3, 4], [0, 1, 2, 3, 7])) [] trivial ?_ ?_
  cases hF
  exact .xR hE [] [0, 1, 2, 3, 4] (by kernel_rfl)
  all_goals kernel_rfl
 ·
  refine .xF he ?_ ?_
  refine .skip ?_
  refine .seq ?_
  refine .uB [0, 1, 2] [3, 4] [] [] rfl trivial ?_ ?_
  obtain ⟨r4, h6, hF⟩ := bindE hF
  refine .uC false [.whole 0, .whole 1, .whole 2, .whole 3] (S_impl_reader_added_50c8 k a1 a2 a3 a4 a5 a6 a7 a8 r4 h6) rfl ?_ ?_
  refine .vE [] (some ([0, 1, 2, 3, 4], [7])) [] trivial ?_ ?_
  cases hF
  exact .xR hE [] [0, 1, 2, 3, 4] (by kernel_rfl)
  all_goals kernel_rfl
 all_goals kernel_rfl
theorem S_impl_reader_read_0f1e_B (k : Nat) (q_impl_reader_read_0f1e : ByteArray → Int → Int → ByteArray → (List Int) → (List (Int × (Int × Int))) → Option (Int × Int × Int × (List (Int × (Int × Int))))) (hq_impl_reader_read_0f1e : ∀ (a1 : ByteArray) (a2 : Int) (a3 : Int) (a4 : ByteArray) (a5 : (List Int)) (a6 : (List (Int × (Int × Int)))) (r : Int × Int × Int × (List (Int × (Int × Int)))), q_impl_reader_read_0f1e a1 a2 a3 a4 a5 a6 = some r → Spec Tryz.prog 152 [pT 0 0] [.box [.str a1, ci a2, ci a3, .str a4, .fn 121 [(1, 0), (2, 0)], .fn 124 [(2, 0)]], .box [.vw none tyI a5], .box [.sl 3], .row tyIII a6] (iI r.1) [.box [.str a1, ci r.2.1, ci r.2.2.1, .str a4, .fn 121 [(1, 0), (2, 0)], .fn 124 [(2, 0)]], .box [.vw none tyI a5], .box [.sl 4], .dead, .row tyIII r.2.2.2]) (a1 : ByteArray) (a2 : Int) (a3 : Int) (a4 : ByteArray) (a5 : (List Int)) (a6 : (List (Int × (Int × Int)))) (r : Int × Int × Int × (List (Int × (Int × Int)))) (hF : F_impl_reader_read_0f1e_B k q_impl_reader_read_0f1e a1 a2 a3 a4 a5 a6 = some r) : Spec Tryz.prog 152 [pT 0 0] [.box [.str a1, ci a2, ci a3, .str a4, .fn 121 [(1, 0), (2, 0)], .fn 124 [(2, 0)]], .box [.vw none tyI a5], .box [.sl 3], .row tyIII a6] (iI r.1) [.box [.str a1, ci r.2.1, ci r.2.2.1, .str a4, .fn 121 [(1, 0), (2, 0)], .fn 124 [(2, 0)]], .box [.vw none tyI a5], .box [.sl 4], .dead, .row tyIII r.2.2.2] := by
 refine Spec.of 4 135 Tryz.func152 rfl rfl (Nat.le_of_ble_eq_true rfl) rfl fun w0 S0 Z0 M0 R0 hE => ?_
 unfold F_impl_reader_read_0f1e_B at hF
 refine .seq ?_
 refine .vW [] none [] trivial ?_ ?_
 refine .seq ?_
 refine .seq ?_
 refine .xW [] (some ([0, 1, 2, 3], [0, 2, 9])) ⟨[(0, pT 0 0), (2, iI 0), (9, bB (a3 != 0))], [.box [.str a1, ci a2, ci a3, .str a4, .fn 121 [(1, 0), (2, 0)], .fn 124 [(2, 0)]], .box [.vw none tyI a5], .box [.sl 3], .row tyIII a6]⟩ [] trivial ?_ ?_
 rcases condE hF with ⟨he, hF⟩ | ⟨he, hF⟩
 ·
  refine .xT he ?_ ?_
  refine .seq ?_
  refine .vW [] (some ([0, 1, 2, 3], [0, 2])) [] trivial ?_ ?_
  cases hF
  exact .xR hE [.mv 3] [0, 1, 2, 3, 4] (by kernel_rfl)
  all_goals kernel_rfl
 ·
  refine .xF he ?_ ?_
  refine .skip ?_
  refine .seq ?_
  refine .uB [0] [1, 2] [] [] rfl trivial ?_ ?_
  obtain ⟨r2, h55, hF⟩ := bindE hF
  refine .uC false [.whole 0, .whole 1, .whole 2, .whole 3] (S_impl_reader_peek_0f1e k a1 a2 a3 a4 a5 a6 r2 h55) rfl ?_ ?_
  refine .xE [] (some ([0, 1, 2, 3], [0, 2, 3])) ⟨[(0, pT 0 0), (2, iI 0), (3, .p (.c (.int .u8 r2)))], [.box [.str a1, ci a2, ci a3, .str a4, .fn 121 [(1, 0), (2, 0)], .fn 124 [(2, 0)]], .box [.vw none tyI a5], .box [.sl 3], .row tyIII a6]⟩ [] trivial ?_ ?_
  refine .seq ?_
  refine .seq ?_
  refine WA.xs [.cells 0 0 1, .cells 0 1 1] [] ?_ ?_
  refine WA.fin 10 [] [] (some ([0, 1, 2, 3], [0, 2, 3, 21])) ⟨[(0, pT 0 0), (2, iI 0), (3, .p (.c (.int .u8 r2))), (21, bB (decide (a2 ≥ (a1.size : Int))))], [.box [.str a1, ci a2, ci a3, .str a4, .fn 121 [(1, 0), (2, 0)], .fn 124 [(2, 0)]], .box [.vw none tyI a5], .box [.sl 3], .row tyIII a6]⟩ trivial ?_ ?_
  rcases condE hF with ⟨he, hF⟩ | ⟨he, hF⟩
  ·
   refine .xT he ?_ ?_
   refine .seq ?_
   refine .uB [0, 1, 2, 3, 4, 5] [6, 7] [] [] rfl trivial ?_ ?_
   obtain ⟨r5, h36, hF⟩ := bindE hF
   refine .uC false [.whole 0, .whole 1, .whole 2, .whole 3] (S_impl_reader_fail_8d05 k 2 (a1.size : Int) a1 a2 a3 a4 a5 a6 r5 h36) rfl ?_ ?_
   refine .vE [] (some ([0, 1, 2, 3], [0, 2, 3])) [] trivial ?_ ?_
   cases hF
   exact .xR hE [.mv 3] [0, 1, 2, 3, 4] (by kernel_rfl)
   all_goals kernel_rfl
  ·
   refine .xF he ?_ ?_
   refine .skip ?_
   refine .seq ?_
   refine .xW [] (some ([0, 1, 2, 3], [0, 2, 3, 4])) ⟨[(0, pT 0 0), (2, iI 0), (3, .p (.c (.int .u8 r2))), (4, .p (.c (.nilsl)))], [.box [.str a1, ci a2, ci a3, .str a4, .fn 121 [(1, 0), (2, 0)], .fn 124 [(2, 0)]], .box [.vw none tyI a5], .box [.sl 3], .row tyIII a6]⟩ [] trivial ?_ ?_
   refine .seq ?_
   refine WT.join (f := fun v33 => F_impl_reader_read_0f1e_J6 k a1 r2 a4 a5 v33) (r := r) (S := fun v33 => ⟨[(0, pT 0 0), (2, iI 0), (3, .p (.c (.int .u8 r2))), (4, sL 4)], [.box [.str a1, ci v33.1, ci v33.2.1, .str a4, .fn 121 [(1, 0), (2, 0)], .fn 124 [(2, 0)]], .box [.vw none tyI a5], .box [.sl 5], .dead, .row tyI v33.2.2.1, .row tyIII v33.2.2.2]⟩) (fun v33 hF => ?_) (fun hJJ6 => ?_)
   ·
    unfold F_impl_reader_read_0f1e_J6 at hF
    refine .seq ?_
    refine .seq ?_
    refine .xW [] (some ([0, 1, 2, 3, 4, 5], [0, 2, 3, 4, 126])) ⟨[(0, pT 0 0), (2, iI 0), (3, .p (.c (.int .u8 r2))), (4, sL 4), (126, bB (v33.2.1 != 0))], [.box [.str a1, ci v33.1, ci v33.2.1, .str a4, .fn 121 [(1, 0), (2, 0)], .fn 124 [(2, 0)]], .box [.vw none tyI a5], .box [.sl 5], .dead, .row tyI v33.2.2.1, .row tyIII v33.2.2.2]⟩ [] trivial ?_ ?_
    rcases condE hF with ⟨he, hF⟩ | ⟨he, hF⟩
    ·
     refine .xT he ?_ ?_
     refine .seq ?_
     refine .vW [] (some ([0, 1, 2, 3, 4, 5], [0, 2, 3, 4])) [] trivial ?_ ?_
     cases hF
     exact .xR hE [] [0, 1, 2, 3, 5] (by kernel_rfl)
     all_goals kernel_rfl
    ·
     refine .xF he ?_ ?_
     refine .skip ?_
     refine .seq ?_
     refine .uB [0, 1, 2, 3, 4, 5, 6] [7, 8] [] [] rfl trivial ?_ ?_
     obtain ⟨r35, h37, hF⟩ := bindE hF
     refine .uS [.frz 4] ?_ ?_
     refine .uC false [.whole 0, .whole 1, .whole 2, .whole 5] (S_impl_RecipeRun_2_bfc8 k r2 v33.2.2.1 a1 v33.1 v33.2.1 a4 a5 v33.2.2.2 r35 h37) rfl ?_ ?_
     refine .vE [] (some ([0, 1, 2, 3, 6], [2])) [] trivial ?_ ?_
     cases hF
     exact .xR hE [] [0, 1, 2, 3, 4] (by kernel_rfl)
     all_goals kernel_rfl
    all_goals kernel_rfl
   ·
    refine .block ?_
    refine .seq ?_
    refine WT.join (f := fun v10 => F_impl_reader_read_0f1e_J7 k a1 q_impl_reader_read_0f1e a2 r2 a3 a4 a5 a6 v10) (r := r) (S := fun v10 => ⟨[(0, pT 0 0), (2, iI 0), (3, .p (.c (.int .u8 r2))), (4, .p (.c (.nilsl))), (35, bB v10)], [.box [.str a1, ci a2, ci a3, .str a4, .fn 121 [(1, 0), (2, 0)], .fn 124 [(2, 0)]], .box [.vw none tyI a5], .box [.sl 3], .row tyIII a6]⟩) (fun v10 hF => ?_) (fun hJJ7 => ?_)
    ·
     unfold F_impl_reader_read_0f1e_J7 at hF
     rcases condE hF with ⟨he, hF⟩ | ⟨he, hF⟩
     ·
      refine .xT he ?_ ?_
      refine .seq ?_
      refine .uB [0, 1, 2, 3, 4, 5] [6, 7] [] [] rfl trivial ?_ ?_
      obtain ⟨r12, h38, hF⟩ := bindE hF
      refine .uC false [.whole 0, .whole 1, .whole 2, .whole 3] (S_impl_RecipeRun_1_c681 k r2 a1 a2 a3 a4 a5 a6 r12 h38) rfl ?_ ?_
      refine .vE [] (some ([0, 1, 2, 3, 4], [0, 2, 3, 4])) [] trivial ?_ ?_
      cases hF
      exact .xR hE [] [0, 1, 2, 3, 4] (by kernel_rfl)
      all_goals kernel_rfl
     ·
      refine .xF he ?_ ?_
      refine .seq ?_
      refine .uB [0] [1, 2] [] [] rfl trivial ?_ ?_
      obtain ⟨r13, h51, hF⟩ := bindE hF
      refine .uC false [] (S_impl_isOneOf k r2 (⟨#[40, 123, 91]⟩ : ByteArray) r13 h51) rfl ?_ ?_
      refine .xE [] (some ([0, 1, 2, 3], [0, 2, 3, 4, 57])) ⟨[(0, pT 0 0), (2, iI 0), (3, .p (.c (.int .u8 r2))), (4, .p (.c (.nilsl))), (57, bB r13)], [.box [.str a1, ci a2, ci a3, .str a4, .fn 121 [(1, 0), (2, 0)], .fn 124 [(2, 0)]], .box [.vw none tyI a5], .box [.sl 3], .row tyIII a6]⟩ [] trivial ?_ ?_
      rcases condE hF with ⟨he, hF⟩ | ⟨he, hF⟩
      ·
       refine .xT he ?_ ?_
       refine .seq ?_
       refine .xW [] (some ([0, 1, 2, 3], [0, 2, 3])) ⟨[(0, pT 0 0), (2, iI 0), (3, .p (.c (.int .u8 r2)))], [.box [.str a1, ci (w64 (a2 + 1)), ci a3, .str a4, .fn 121 [(1, 0), (2, 0)], .fn 124 [(2, 0)]], .box [.vw none tyI a5], .box [.sl 3], .row tyIII a6]⟩ [] trivial ?_ ?_
       refine .uB [0, 1] [2, 3, 4] [] [] rfl trivial ?_ ?_
       obtain ⟨r15, h40, hF⟩ := bindE hF
       refine .uC false [] (S_impl_closing k r2 r15 h40) rfl ?_ ?_
       obtain ⟨r16, h39, hF⟩ := bindE hF
       refine .uC false [.whole 0, .whole 1, .whole 2, .whole 3] (S_impl_reader_two_32e8 k q_impl_reader_read_0f1e hq_impl_reader_read_0f1e r15 a1 (w64 (a2 + 1)) a3 a4 a5 a6 r16 h39) rfl ?_ ?_
       refine .vE [] (some ([0, 1, 2, 3, 4, 5], [0, 2, 3, 4])) [] trivial ?_ ?_
       refine .inBlock ?_
       exact .xS [.pick [0, 1, 2, 3, 4, 5] [0, 2, 3, 4]] (hJJ6 (r16.1, r16.2.1, r16.2.2.1, r16.2.2.2) hF) (by kernel_rfl)
       all_goals kernel_rfl
      ·
       refine .xF he ?_ ?_
       refine .seq ?_
       refine WT.join (f := fun v21 => F_impl_reader_read_0f1e_J17 k a1 q_impl_reader_read_0f1e a2 r2 a3 a4 a5 a6 v21) (r := r) (S := fun v21 => ⟨[(0, pT 0 0), (2, iI 0), (3, .p (.c (.int .u8 r2))), (4, .p (.c (.nilsl))), (71, bB v21)], [.box [.str a1, ci a2, ci a3, .str a4, .fn 121 [(1, 0), (2, 0)], .fn 124 [(2, 0)]], .box [.vw none tyI a5], .box [.sl 3], .row tyIII a6]⟩) (fun v21 hF => ?_) (fun hJJ17 => ?_)
       ·
        unfold F_impl_reader_read_0f1e_J17 at hF
        rcases condE hF with ⟨he, hF⟩ | ⟨he, hF⟩
        ·
         refine .xT he ?_ ?_
         refine .seq ?_
         refine .xW [] (some ([0, 1, 2, 3], [0, 2, 3])) ⟨[(0, pT 0 0), (2, iI 0), (3, .p (.c (.int .u8 r2)))], [.box [.str a1, ci (w64 (a2 + 1)), ci a3, .str a4, .fn 121 [(1, 0), (2, 0)], .fn 124 [(2, 0)]], .box [.vw none tyI a5], .box [.sl 3], .row tyIII a6]⟩ [] trivial ?_ ?_
         refine .uB [0] [1, 2, 3] [] [] rfl trivial ?_ ?_
         obtain ⟨r23, h41, hF⟩ := bindE hF
         refine .uC false [.whole 0, .whole 1, .whole 2, .whole 3] (hq_impl_reader_read_0f1e a1 (w64 (a2 + 1)) a3 a4 a5 a6 r23 h41) rfl ?_ ?_
         refine .vE [.el tyI 0] (some ([0, 1, 2, 3, 5, 4], [0, 2, 3, 4])) [] trivial ?_ ?_
         refine .inBlock ?_
         exact .xS [.pick [0, 1, 2, 3, 4, 5] [0, 2, 3, 4]] (hJJ6 (r23.2.1, r23.2.2.1, [r23.1], r23.2.2.2) hF) (by kernel_rfl)
         all_goals kernel_rfl
        ·
         refine .xF he ?_ ?_
         refine .seq ?_
         refine WT.join (f := fun v28 => F_impl_reader_read_0f1e_J24 k a1 q_impl_reader_read_0f1e a2 r2 a3 a4 a5 a6 v28) (r := r) (S := fun v28 => ⟨[(0, pT 0 0), (2, iI 0), (3, .p (.c (.int .u8 r2))), (4, .p (.c (.nilsl))), (96, bB v28)], [.box [.str a1, ci a2, ci a3, .str a4, .fn 121 [(1, 0), (2, 0)], .fn 124 [(2, 0)]], .box [.vw none tyI a5], .box [.sl 3], .row tyIII a6]⟩) (fun v28 hF => ?_) (fun hJJ24 => ?_)
         ·
          unfold F_impl_reader_read_0f1e_J24 at hF
          rcases condE hF with ⟨he, hF⟩ | ⟨he, hF⟩
          ·
           refine .xT he ?_ ?_
           refine .seq ?_
           refine .xW [] (some ([0, 1, 2, 3], [0, 2, 3])) ⟨[(0, pT 0 0), (2, iI 0), (3, .p (.c (.int .u8 r2)))], [.box [.str a1, ci (w64 (a2 + 1)), ci a3, .str a4, .fn 121 [(1, 0), (2, 0)], .fn 124 [(2, 0)]], .box [.vw none tyI a5], .box [.sl 3], .row tyIII a6]⟩ [] trivial ?_ ?_
           refine .seq ?_
           refine .uB [0] [1] [] [] rfl trivial ?_ ?_
           obtain ⟨r30, h43, hF⟩ := bindE hF
           refine .uC false [.whole 0, .whole 1, .whole 2, .whole 3] (S_impl_reader_take_32e8 k 40 a1 (w64 (a2 + 1)) a3 a4 a5 a6 r30 h43) rfl ?_ ?_
           refine .xE [] (some ([0, 1, 2, 3], [0, 2, 3])) ⟨[(0, pT 0 0), (2, iI 0), (3, .p (.c (.int .u8 r2)))], [.box [.str a1, ci r30.1, ci r30.2, .str a4, .fn 121 [(1, 0), (2, 0)], .fn 124 [(2, 0)]], .box [.vw none tyI a5], .box [.sl 3], .row tyIII a6]⟩ [] trivial ?_ ?_
           refine .uB [0] [1, 2] [] [] rfl trivial ?_ ?_
           obtain ⟨r31, h42, hF⟩ := bindE hF
           refine .uC false [.whole 0, .whole 1, .whole 2, .whole 3] (S_impl_reader_two_32e8 k q_impl_reader_read_0f1e hq_impl_reader_read_0f1e 41 a1 r30.1 r30.2 a4 a5 a6 r31 h42) rfl ?_ ?_
           refine .vE [] (some ([0, 1, 2, 3, 4, 5], [0, 2, 3, 4])) [] trivial ?_ ?_
           refine .inBlock ?_
           exact .xS [.pick [0, 1, 2, 3, 4, 5] [0, 2, 3, 4]] (hJJ6 (r31.1, r31.2.1, r31.2.2.1, r31.2.2.2) hF) (by kernel_rfl)
           all_goals kernel_rfl
          ·
           refine .xF he ?_ ?_
           refine .seq ?_
           refine .uB [0, 1, 2, 3, 4] [5, 6] [] [] rfl trivial ?_ ?_
           obtain ⟨r32, h44, hF⟩ := bindE hF
           refine .uC false [.whole 0, .whole 1, .whole 2, .whole 3] (S_impl_reader_fail_8d05 k 3 a2 a1 a2 a3 a4 a5 a6 r32 h44) rfl ?_ ?_
           refine .vE [] (some ([0, 1, 2, 3], [0, 2, 3, 4])) [] trivial ?_ ?_
           cases hF
           exact .xR hE [.mv 3] [0, 1, 2, 3, 4] (by kernel_rfl)
           all_goals kernel_rfl
          all_goals kernel_rfl
         ·
          refine .uB [0] [1, 2, 3, 4, 5, 6, 7, 8, 9, 10, 11, 12, 13, 14] [] [] rfl trivial ?_ ?_
          obtain ⟨r25, h47, hF⟩ := bindE hF
          refine .uC false [] (S_impl_isOneOf k r2 (⟨#[107, 42]⟩ : ByteArray) r25 h47) rfl ?_ ?_
          refine .uN [2] [3, 4, 5, 6, 7, 8, 9, 10, 11, 12, 13, 14] [] [] rfl trivial ?_ ?_
          rcases condE hF with ⟨he, hF⟩ | ⟨he, hF⟩
          ·
           refine WT.putB [99, 98] he ?_ ?_
           refine .vE [] (some ([0, 1, 2, 3], [0, 2, 3, 4, 96])) [] trivial ?_ ?_
           exact .xS [.pick [0, 1, 2, 3] [0, 2, 3, 4, 96]] (hJJ24 (true) hF) (by kernel_rfl)
           all_goals kernel_rfl
          ·
           refine WT.putB [99, 98] he ?_ ?_
           refine .uN [3] [4, 5, 6, 7, 8, 9, 10, 11, 12, 13, 14] [] [] rfl trivial ?_ ?_
           obtain ⟨r26, h46, hF⟩ := bindE hF
           refine .uC false [] (S_impl_isOneOf k r2 (⟨#[111, 120]⟩ : ByteArray) r26 h46) rfl ?_ ?_
           refine .uN [5] [6, 7, 8, 9, 10, 11, 12, 13, 14] [] [] rfl trivial ?_ ?_
           rcases condE hF with ⟨he, hF⟩ | ⟨he, hF⟩
           ·
            refine WT.putB [102, 101] he ?_ ?_
            refine .uN [6, 7, 8, 9, 10] [11, 12, 13, 14] [] [] rfl trivial ?_ ?_
            obtain ⟨r27, h45, hF⟩ := bindE hF
            refine .uC false [] (S_impl_isOneOf k r2 a4 r27 h45) rfl ?_ ?_
            refine .vE [] (some ([0, 1, 2, 3], [0, 2, 3, 4, 96])) [] trivial ?_ ?_
            exact .xS [.pick [0, 1, 2, 3] [0, 2, 3, 4, 96]] (hJJ24 (r27) hF) (by kernel_rfl)
            all_goals kernel_rfl
           ·
            refine WT.putB [102, 101] he ?_ ?_
            refine .vE [] (some ([0, 1, 2, 3], [0, 2, 3, 4, 96])) [] trivial ?_ ?_
            exact .xS [.pick [0, 1, 2, 3] [0, 2, 3, 4, 96]] (hJJ24 (false) hF) (by kernel_rfl)
            all_goals kernel_rfl
           all_goals kernel_rfl
          all_goals kernel_rfl
         all_goals kernel_rfl
        all_goals kernel_rfl
       ·
        refine .uB [0] [1, 2, 3, 4, 5, 6, 7, 8, 9, 10, 11, 12, 13, 14] [] [] rfl trivial ?_ ?_
        obtain ⟨r18, h50, hF⟩ := bindE hF
        refine .uC false [] (S_impl_isOneOf k r2 (⟨#[35, 94]⟩ : ByteArray) r18 h50) rfl ?_ ?_
        refine .uN [2] [3, 4, 5, 6, 7, 8, 9, 10, 11, 12, 13, 14] [] [] rfl trivial ?_ ?_
        rcases condE hF with ⟨he, hF⟩ | ⟨he, hF⟩
        ·
         refine WT.putB [74, 73] he ?_ ?_
         refine .vE [] (some ([0, 1, 2, 3], [0, 2, 3, 4, 71])) [] trivial ?_ ?_
         exact .xS [.pick [0, 1, 2, 3] [0, 2, 3, 4, 71]] (hJJ17 (true) hF) (by kernel_rfl)
         all_goals kernel_rfl
        ·
         refine WT.putB [74, 73] he ?_ ?_
         refine .uN [3] [4, 5, 6, 7, 8, 9, 10, 11, 12, 13, 14] [] [] rfl trivial ?_ ?_
         obtain ⟨r19, h49, hF⟩ := bindE hF
         refine .uC false [] (S_impl_isOneOf k r2 (⟨#[60, 62, 33]⟩ : ByteArray) r19 h49) rfl ?_ ?_
         refine .uN [5] [6, 7, 8, 9, 10, 11, 12, 13, 14] [] [] rfl trivial ?_ ?_
         rcases condE hF with ⟨he, hF⟩ | ⟨he, hF⟩
         ·
          refine WT.putB [77, 76] he ?_ ?_
          refine .uN [6, 7, 8, 9, 10] [11, 12, 13, 14] [] [] rfl trivial ?_ ?_
          obtain ⟨r20, h48, hF⟩ := bindE hF
          refine .uC false [] (S_impl_isOneOf k r2 a4 r20 h48) rfl ?_ ?_
          refine .vE [] (some ([0, 1, 2, 3], [0, 2, 3, 4, 71])) [] trivial ?_ ?_
          exact .xS [.pick [0, 1, 2, 3] [0, 2, 3, 4, 71]] (hJJ17 (r20) hF) (by kernel_rfl)
          all_goals kernel_rfl
         ·
          refine WT.putB [77, 76] he ?_ ?_
          refine .vE [] (some ([0, 1, 2, 3], [0, 2, 3, 4, 71])) [] trivial ?_ ?_
          exact .xS [.pick [0, 1, 2, 3] [0, 2, 3, 4, 71]] (hJJ17 (false) hF) (by kernel_rfl)
          all_goals kernel_rfl
         all_goals kernel_rfl
        all_goals kernel_rfl
       all_goals kernel_rfl
      all_goals kernel_rfl
     all_goals kernel_rfl
    ·
     refine .uB [0, 1, 2] [3, 4, 5, 6, 7, 8, 9, 10, 11, 12, 13, 14] [] [] rfl trivial ?_ ?_
     rcases condE hF with ⟨he, hF⟩ | ⟨he, hF⟩
     ·
      refine WT.putB [38, 37] he ?_ ?_
      refine .vE [] (some ([0, 1, 2, 3], [0, 2, 3, 4, 35])) [] trivial ?_ ?_
      exact .xS [.pick [0, 1, 2, 3] [0, 2, 3, 4, 35]] (hJJ7 (true) hF) (by kernel_rfl)
      all_goals kernel_rfl
     ·
      refine WT.putB [38, 37] he ?_ ?_
      refine .uN [3] [4, 5, 6, 7, 8, 9, 10, 11, 12, 13, 14] [] [] rfl trivial ?_ ?_
      obtain ⟨r8, h53, hF⟩ := bindE hF
      refine .uC false [] (S_impl_isOneOf k r2 (⟨#[64, 36, 63]⟩ : ByteArray) r8 h53) rfl ?_ ?_
      refine .uN [5] [6, 7, 8, 9, 10, 11, 12, 13, 14] [] [] rfl trivial ?_ ?_
      rcases condE hF with ⟨he, hF⟩ | ⟨he, hF⟩
      ·
       refine WT.putB [41, 40] he ?_ ?_
       refine .uN [6, 7, 8, 9, 10] [11, 12, 13, 14] [] [] rfl trivial ?_ ?_
       obtain ⟨r9, h52, hF⟩ := bindE hF
       refine .uC false [] (S_impl_isOneOf k r2 a4 r9 h52) rfl ?_ ?_
       refine .vE [] (some ([0, 1, 2, 3], [0, 2, 3, 4, 35])) [] trivial ?_ ?_
       exact .xS [.pick [0, 1, 2, 3] [0, 2, 3, 4, 35]] (hJJ7 (r9) hF) (by kernel_rfl)
       all_goals kernel_rfl
      ·
       refine WT.putB [41, 40] he ?_ ?_
       refine .vE [] (some ([0, 1, 2, 3], [0, 2, 3, 4, 35])) [] trivial ?_ ?_
       exact .xS [.pick [0, 1, 2, 3] [0, 2, 3, 4, 35]] (hJJ7 (false) hF) (by kernel_rfl)
       all_goals kernel_rfl
      all_goals kernel_rfl
     all_goals kernel_rfl
    all_goals kernel_rfl
   all_goals kernel_rfl
  all_goals kernel_rfl
 all_goals kernel_rfl
theorem S_impl_reader_read_0f1e (k : Nat) : ∀ (m : Nat) (a1 : ByteArray) (a2 : Int) (a3 : Int) (a4 : ByteArray) (a5 : (List Int)) (a6 : (List (Int × (Int × Int)))) (r : Int × Int × Int × (List (Int × (Int × Int)))), F_impl_reader_read_0f1e k m a1 a2 a3 a4 a5 a6 = some r → Spec Tryz.prog 152 [pT 0 0] [.box [.str a1, ci a2, ci a3, .str a4, .fn 121 [(1, 0), (2, 0)], .fn 124 [(2, 0)]], .box [.vw none tyI a5], .box [.sl 3], .row tyIII a6] (iI r.1) [.box [.str a1, ci r.2.1, ci r.2.2.1, .str a4, .fn 121 [(1, 0), (2, 0)], .fn 124 [(2, 0)]], .box [.vw none tyI a5], .box [.sl 4], .dead, .row tyIII r.2.2.2] := by
  intro m
  induction m with
  | zero => intro a1 a2 a3 a4 a5 a6 r h; cases h
  | succ m ih => intro a1 a2 a3 a4 a5 a6 r h; exact S_impl_reader_read_0f1e_B k (F_impl_reader_read_0f1e k m) ih a1 a2 a3 a4 a5 a6 r h
theorem S_impl_reader_all_51fc (k : Nat) (a1 : Int) (a2 : ByteArray) (a3 : Int) (a4 : Int) (a5 : ByteArray) (a6 : (List Int)) (a7 : (List (Int × (Int × Int)))) (r : Int × Int × Int × (List (Int × (Int × Int)))) (hF : F_impl_reader_all_51fc k a1 a2 a3 a4 a5 a6 a7 = some r) : Spec Tryz.prog 128 [pT 0 0, iI a1] [.box [.str a2, ci a3, ci a4, .str a5, .fn 121 [(1, 0), (2, 0)], .fn 124 [(2, 0)]], .box [.vw none tyI a6], .box [.sl 3], .row tyIII a7] (iI r.1) [.box [.str a2, ci r.2.1, ci r.2.2.1, .str a5, .fn 121 [(1, 0), (2, 0)], .fn 124 [(2, 0)]], .box [.vw none tyI a6], .box [.sl 4], .dead, .row tyIII r.2.2.2] := by
 refine Spec.of 4 41 Tryz.func128 rfl rfl (Nat.le_of_ble_eq_true rfl) rfl fun w0 S0 Z0 M0 R0 hE => ?_
 unfold F_impl_reader_all_51fc at hF
 refine .seq ?_
 refine .vW [] none [] trivial ?_ ?_
 refine .seq ?_
 refine .seq ?_
 refine .xW [] (some ([0, 1, 2, 3], [0, 4, 12])) ⟨[(0, pT 0 0), (4, iI 0), (12, bB (decide ((a2.size : Int) > a1)))], [.box [.str a2, ci a3, ci a4, .str a5, .fn 121 [(1, 0), (2, 0)], .fn 124 [(2, 0)]], .box [.vw none tyI a6], .box [.sl 3], .row tyIII a7]⟩ [] trivial ?_ ?_
 rcases condE hF with ⟨he, hF⟩ | ⟨he, hF⟩
 ·
  refine .xT he ?_ ?_
  refine .seq ?_
  refine .uB [0] [1, 2] [] [] rfl trivial ?_ ?_
  obtain ⟨r2, h8, hF⟩ := bindE hF
  refine .uC false [.whole 0, .whole 1, .whole 2, .whole 3] (S_impl_reader_fail_8d05 k 1 0 a2 a3 a4 a5 a6 a7 r2 h8) rfl ?_ ?_
  refine .vE [] (some ([0, 1, 2, 3], [0, 4])) [] trivial ?_ ?_
  cases hF
  exact .xR hE [.mv 3] [0, 1, 2, 3, 4] (by kernel_rfl)
  all_goals kernel_rfl
 ·
  refine .xF he ?_ ?_
  refine .skip ?_
  refine .seq ?_
  refine .uB [0] [1, 2] [] [] rfl trivial ?_ ?_
  obtain ⟨r3, h10, hF⟩ := bindE hF
  refine .uC false [.whole 0, .whole 1, .whole 2, .whole 3] (S_impl_reader_read_0f1e k k a2 a3 a4 a5 a6 a7 r3 h10) rfl ?_ ?_
  refine .xE [] (some ([0, 1, 2, 3, 4], [0, 4, 5])) ⟨[(0, pT 0 0), (4, iI 0), (5, iI r3.1)], [.box [.str a2, ci r3.2.1, ci r3.2.2.1, .str a5, .fn 121 [(1, 0), (2, 0)], .fn 124 [(2, 0)]], .box [.vw none tyI a6], .box [.sl 4], .dead, .row tyIII r3.2.2.2]⟩ [] trivial ?_ ?_
  refine .seq ?_
  refine .seq ?_
  refine WT.join (f := fun v5 => F_impl_reader_all_51fc_J4 k a2 r3 a5 a6 v5) (r := r) (S := fun v5 => ⟨[(0, pT 0 0), (4, iI 0), (5, iI r3.1), (33, bB v5)], [.box [.str a2, ci r3.2.1, ci r3.2.2.1, .str a5, .fn 121 [(1, 0), (2, 0)], .fn 124 [(2, 0)]], .box [.vw none tyI a6], .box [.sl 4], .dead, .row tyIII r3.2.2.2]⟩) (fun v5 hF => ?_) (fun hJJ4 => ?_)
  ·
   unfold F_impl_reader_all_51fc_J4 at hF
   rcases condE hF with ⟨he, hF⟩ | ⟨he, hF⟩
   ·
    refine .xT he ?_ ?_
    refine .seq ?_
    refine .uB [0, 1, 2, 3, 4] [5, 6] [] [] rfl trivial ?_ ?_
    obtain ⟨r7, h9, hF⟩ := bindE hF
    refine .uC false [.whole 0, .whole 1, .whole 2, .whole 4] (S_impl_reader_fail_8d05 k 6 r3.2.1 a2 r3.2.1 r3.2.2.1 a5 a6 r3.2.2.2 r7 h9) rfl ?_ ?_
    refine .vE [] (some ([0, 1, 2, 3, 4], [4, 5])) [] trivial ?_ ?_
    cases hF
    exact .xR hE [] [0, 1, 2, 3, 4] (by kernel_rfl)
    all_goals kernel_rfl
   ·
    refine .xF he ?_ ?_
    refine .skip ?_
    refine .seq ?_
    refine .vW [] (some ([0, 1, 2, 3, 4], [4])) [] trivial ?_ ?_
    cases hF
    exact .xR hE [] [0, 1, 2, 3, 4] (by kernel_rfl)
    all_goals kernel_rfl
   all_goals kernel_rfl
  ·
   refine WA.xs [.cells 0 0 1, .cells 0 1 1, .cells 0 2 1] [] ?_ ?_
   refine WA.uR (fuel' := 11) (listed' := #[true, true, true, true, true, true, false, false, false, false, false, false, false, false, false, false, false]) 6 [] [] trivial ?_ ?_
   rcases condE hF with ⟨he, hF⟩ | ⟨he, hF⟩
   ·
    refine WA.putB [22, 21] he ?_ ?_
    refine WA.fin 11 [] [] (some ([0, 1, 2, 3, 4], [0, 4, 5, 33])) ⟨[(0, pT 0 0), (4, iI 0), (5, iI r3.1), (33, bB (decide (r3.2.1 < (a2.size : Int))))], [.box [.str a2, ci r3.2.1, ci r3.2.2.1, .str a5, .fn 121 [(1, 0), (2, 0)], .fn 124 [(2, 0)]], .box [.vw none tyI a6], .box [.sl 4], .dead, .row tyIII r3.2.2.2]⟩ trivial ?_ ?_
    exact .xS [.pick [0, 1, 2, 3, 4] [0, 4, 5, 33]] (hJJ4 (decide (r3.2.1 < (a2.size : Int))) hF) (by kernel_rfl)
    all_goals kernel_rfl
   ·
    refine WA.putB [22, 21] he ?_ ?_
    refine WA.fin 11 [] [] (some ([0, 1, 2, 3, 4], [0, 4, 5, 33])) ⟨[(0, pT 0 0), (4, iI 0), (5, iI r3.1), (33, bB false)], [.box [.str a2, ci r3.2.1, ci r3.2.2.1, .str a5, .fn 121 [(1, 0), (2, 0)], .fn 124 [(2, 0)]], .box [.vw none tyI a6], .box [.sl 4], .dead, .row tyIII r3.2.2.2]⟩ trivial ?_ ?_
    exact .xS [.pick [0, 1, 2, 3, 4] [0, 4, 5, 33]] (hJJ4 (false) hF) (by kernel_rfl)
    all_goals kernel_rfl
   all_goals kernel_rfl
  all_goals kernel_rfl
 all_goals kernel_rfl
theorem S_impl_RecipeRun (k : Nat) (a1 : (List (Int × (Int × Int)))) (a2 : (List Int)) (a3 : ByteArray) (r : Int × Int × Int × (List (Int × (Int × Int)))) (hF : F_impl_RecipeRun k a1 a2 a3 = some r) : Spec Tryz.prog 98 [aG [.vw none tyIII a1], vV none tyI a2, sS a3] [] (.tup [.agg [.sl 0], .c (ci r.1), .c (ci r.2.1), .c (ci r.2.2.1)]) [.row tyIII r.2.2.2] := by
 refine Spec.of 0 60 Tryz.func98 rfl rfl (Nat.le_of_ble_eq_true rfl) rfl fun w0 S0 Z0 M0 R0 hE => ?_
 unfold F_impl_RecipeRun at hF
 refine .seq ?_
 refine .vW [] (some ([0, 1, 2], [2, 3, 4, 6, 7, 8, 9])) [] trivial ?_ ?_
 refine .seq ?_
 refine .block ?_
 refine .seq ?_
 refine .xW [] (some ([0, 1, 2], [2, 3, 4, 6, 7, 8, 9, 13])) ⟨[(2, sS a3), (3, pT 0 0), (4, pT 1 0), (6, pT 2 0), (7, iI 0), (8, iI 0), (9, iI 0), (13, bB (decide ((a3.size : Int) > 2000)))], [.box [.vw none tyIII a1], .box [.vw none tyI a2], .box [.nilsl]]⟩ [] trivial ?_ ?_
 rcases condE hF with ⟨he, hF⟩ | ⟨he, hF⟩
 ·
  refine .xT he ?_ ?_
  refine .seq ?_
  refine .uB [0] [1, 2, 3, 4, 5] [] [] rfl trivial ?_ ?_
  obtain ⟨r3, h13, hF⟩ := bindE hF
  refine .uC false [] (S_impl_orEmpty k a1 r3 h13) rfl ?_ ?_
  refine .vE [] (some ([0, 1, 2, 3], [2, 3, 4, 6, 7, 8, 9])) [] trivial ?_ ?_
  cases hF
  exact .xR hE [] [3] (by kernel_rfl)
  all_goals kernel_rfl
 ·
  refine .xF he ?_ ?_
  refine .seq ?_
  refine .uB [0, 1] [2, 3, 4] [] [] rfl trivial ?_ ?_
  obtain ⟨r4, h19, hF⟩ := bindE hF
  refine .uC false [] (S_impl_KnowOk k a1 a2 r4 h19) rfl ?_ ?_
  refine .xE [] (some ([0, 1, 2], [2, 3, 4, 6, 7, 8, 9, 19])) ⟨[(2, sS a3), (3, pT 0 0), (4, pT 1 0), (6, pT 2 0), (7, iI 0), (8, iI 0), (9, iI 0), (19, bB (!r4))], [.box [.vw none tyIII a1], .box [.vw none tyI a2], .box [.nilsl]]⟩ [] trivial ?_ ?_
  rcases condE hF with ⟨he, hF⟩ | ⟨he, hF⟩
  ·
   refine .xT he ?_ ?_
   refine .seq ?_
   refine .uB [0] [1, 2, 3, 4, 5] [] [] rfl trivial ?_ ?_
   obtain ⟨r6, h14, hF⟩ := bindE hF
   refine .uC false [] (S_impl_orEmpty k a1 r6 h14) rfl ?_ ?_
   refine .vE [] (some ([0, 1, 2, 3], [2, 3, 4, 6, 7, 8, 9])) [] trivial ?_ ?_
   cases hF
   exact .xR hE [] [3] (by kernel_rfl)
   all_goals kernel_rfl
  ·
   refine .xF he ?_ ?_
   refine .skip ?_
   refine .inBlock ?_
   refine .seq ?_
   refine .uB [0] [1, 2, 3] [] [] rfl trivial ?_ ?_
   obtain ⟨r7, h18, hF⟩ := bindE hF
   refine .uC false [] (S_impl_copyPool k a1 r7 h18) rfl ?_ ?_
   refine .vE [] (some ([0, 1, 2, 4, 3], [2, 3, 4, 6, 7, 8, 9, 10])) [] trivial ?_ ?_
   refine .seq ?_
   refine .vW [] (some ([0, 1, 2, 3, 5, 4], [2, 3, 4, 6, 7, 8, 9, 10, 11])) [] trivial ?_ ?_
   refine .seq ?_
   refine .vW [] (some ([0, 2, 3, 4, 5, 1], [2, 3, 6, 7, 8, 9, 10, 11])) [] trivial ?_ ?_
   refine .seq ?_
   refine .xW [] (some ([0, 1, 2, 3, 4, 5], [2, 3, 6, 7, 8, 9, 10, 11])) ⟨[(2, sS a3), (3, pT 0 0), (6, pT 1 0), (7, iI 0), (8, iI 0), (9, iI 0), (10, pT 2 0), (11, pT 3 0)], [.box [.vw none tyIII a1], .box [.nilsl], .box [.sl 4], .box [.str a3, ci 0, ci 0, .str (⟨#[64, 60, 62, 33, 111, 120]⟩ : ByteArray), .fn 121 [(5, 0), (2, 0)], .fn 124 [(2, 0)]], .row tyIII r7, .box [.vw none tyI a2]]⟩ [] trivial ?_ ?_
   refine .seq ?_
   refine .uB [0] [1, 2] [] [] rfl trivial ?_ ?_
   obtain ⟨r8, h17, hF⟩ := bindE hF
   refine .uC false [.whole 3, .whole 5, .whole 2, .whole 4] (S_impl_reader_all_51fc k 2000 a3 0 0 (⟨#[64, 60, 62, 33, 111, 120]⟩ : ByteArray) a2 r7 r8 h17) rfl ?_ ?_
   refine .vE [] (some ([0, 1, 2, 3, 6, 5], [2, 3, 6, 7, 8, 9, 10, 11, 12])) [] trivial ?_ ?_
   refine .seq ?_
   refine .seq ?_
   refine .xW [] (some ([0, 1, 2, 3, 4, 5], [2, 3, 6, 7, 8, 9, 10, 11, 12, 45])) ⟨[(2, sS a3), (3, pT 0 0), (6, pT 1 0), (7, iI 0), (8, iI 0), (9, iI 0), (10, pT 2 0), (11, pT 3 0), (12, iI r8.1), (45, bB (r8.2.2.1 != 0))], [.box [.vw none tyIII a1], .box [.nilsl], .box [.sl 4], .box [.str a3, ci r8.2.1, ci r8.2.2.1, .str (⟨#[64, 60, 62, 33, 111, 120]⟩ : ByteArray), .fn 121 [(5, 0), (2, 0)], .fn 124 [(2, 0)]], .row tyIII r8.2.2.2, .box [.vw none tyI a2]]⟩ [] trivial ?_ ?_
   rcases condE hF with ⟨he, hF⟩ | ⟨he, hF⟩
   ·
    refine .xT he ?_ ?_
    refine .seq ?_
    obtain ⟨r11, h12, hF⟩ := bindE hF
    refine WA.xs [.cells 0 0 1, .cells 3 1 1, .cells 3 2 1] [.cells 1 0 1] ?_ ?_
    refine WA.lem (pr' := [.cells 0 0 1, .cells 3 1 1, .cells 3 2 1]) (fuel' := 0) (listed' := #[true, true, true, true, true, true, true, true, true, true, true, true, true, true]) (st' := ⟨[(2, sS a3), (6, pT 1 0), (7, iI (-1)), (8, iI r8.2.1), (9, iI r8.2.2.1), (10, pT 2 0), (12, iI r8.1)], [.box [.vw none tyIII a1], .box [.sl 6], .box [.sl 4], .box [.str a3, ci r8.2.1, ci r8.2.2.1, .str (⟨#[64, 60, 62, 33, 111, 120]⟩ : ByteArray), .fn 121 [(5, 0), (2, 0)], .fn 124 [(2, 0)]], .row tyIII r8.2.2.2, .box [.vw none tyI a2], .row tyIII r11]⟩) ?_ (fun A16 => ?_)
    ·
     refine WA.xD (some ([1, 2, 6, 4], [2, 6, 7, 8, 9, 10, 12])) ⟨[(2, sS a3), (6, pT 0 0), (7, iI (-1)), (8, iI r8.2.1), (9, iI r8.2.2.1), (10, pT 1 0), (12, iI r8.1)], [.box [.sl 2], .box [.sl 3], .row tyIII r11, .row tyIII r8.2.2.2]⟩ ?_ ?_
     cases hF
     exact .xR hE [] [2] (by kernel_rfl)
     all_goals kernel_rfl
    refine WA.lem (pr' := [.cells 0 0 1, .cells 3 1 1, .cells 3 2 1]) (fuel' := 5) (listed' := #[true, false, true, true, true, true, true, true, true, true, false, false, false, false]) (st' := ⟨[(2, sS a3), (6, pT 1 0), (7, iI 0), (8, iI 0), (9, iI 0), (10, pT 2 0), (12, iI r8.1), (46, aG [.vw none tyIII a1]), (51, iI r8.2.1), (55, iI r8.2.2.1)], [.box [.vw none tyIII a1], .box [.nilsl], .box [.sl 4], .box [.str a3, ci r8.2.1, ci r8.2.2.1, .str (⟨#[64, 60, 62, 33, 111, 120]⟩ : ByteArray), .fn 121 [(5, 0), (2, 0)], .fn 124 [(2, 0)]], .row tyIII r8.2.2.2, .box [.vw none tyI a2]]⟩) ?_ (fun A15 => ?_)
    ·
     refine WA.x1 1 (WO.uC false [] [.cells 0 0 1, .cells 3 1 1, .cells 3 2 1] (S_impl_copyPool k a1 r11 h12) rfl ?_ ?_) ?_
     exact WA.to 4 [] [] [0, 1, 2, 3, 4, 5, 6] [2, 6, 7, 8, 9, 10, 12] A16 trivial (by kernel_rfl)
     all_goals kernel_rfl
    exact WA.to 9 [] [] [0, 1, 2, 3, 4, 5] [2, 6, 7, 8, 9, 10, 12, 46, 51, 55] A15 trivial (by kernel_rfl)
    all_goals kernel_rfl
   ·
    refine .xF he ?_ ?_
    refine .skip ?_
    refine .seq ?_
    refine .vW [] (some ([1, 4], [6, 7, 8, 9])) [] trivial ?_ ?_
    cases hF
    exact .xR hE [] [1] (by kernel_rfl)
    all_goals kernel_rfl
   all_goals kernel_rfl
  all_goals kernel_rfl
 all_goals kernel_rfl
theorem S_impl_LinkTake (k : Nat) (a1 : (List (Int × (Int × Int)))) (a2 : Int) (a3 : Int) (a4 : Int) (a5 : Bool) (a6 : Int) (r : Int × Bool × Int × Int) (hF : F_impl_LinkTake k a1 a2 a3 a4 a5 a6 = some r) : Spec Tryz.prog 99 [aG [.vw none tyIII a1], aG [ci a2, ci a3, ci a4, .bool a5], iI a6] [] (.tup [.agg [ci a2, ci a3, ci r.1, .bool r.2.1], .c (ci r.2.2.1), .c (ci r.2.2.2)]) [] := by
 refine Spec.of 0 83 Tryz.func99 rfl rfl (Nat.le_of_ble_eq_true rfl) rfl fun w0 S0 Z0 M0 R0 hE => ?_
 unfold F_impl_LinkTake at hF
 refine .seq ?_
 refine .xW [] (some ([0, 1, 2], [2, 3, 4, 6, 7, 8])) ⟨[(2, iI a6), (3, pT 0 0), (4, pT 1 0), (6, pT 2 0), (7, iI 0), (8, iI 0)], [.box [.vw none tyIII a1], .box [ci a2, ci a3, ci a4, .bool a5], .box [ci 0, ci 0, ci 0, .bool false]]⟩ [] trivial ?_ ?_
 refine .seq ?_
 refine .block ?_
 refine .seq ?_
 refine WT.join (f := fun v5 => F_impl_LinkTake_J2 k a1 a2 a4 a5 a6 v5) (r := r) (S := fun v5 => ⟨[(2, iI a6), (3, pT 0 0), (4, pT 1 0), (6, pT 2 0), (7, iI 0), (8, iI 0), (11, bB v5)], [.box [.vw none tyIII a1], .box [ci a2, ci a3, ci a4, .bool a5], .box [ci 0, ci 0, ci 0, .bool false]]⟩) (fun v5 hF => ?_) (fun hJJ2 => ?_)
 ·
  unfold F_impl_LinkTake_J2 at hF
  rcases condE hF with ⟨he, hF⟩ | ⟨he, hF⟩
  ·
   refine .xT he ?_ ?_
   refine .seq ?_
   refine .vW [] (some ([0, 1, 2], [2, 3, 4, 6, 7, 8])) [] trivial ?_ ?_
   cases hF
   exact .xR hE [] [] (by kernel_rfl)
   all_goals kernel_rfl
  ·
   refine .xF he ?_ ?_
   refine .seq ?_
   refine .xW [] (some ([0, 1, 2], [2, 3, 4, 6, 7, 8, 22])) ⟨[(2, iI a6), (3, pT 0 0), (4, pT 1 0), (6, pT 2 0), (7, iI 0), (8, iI 0), (22, bB a5)], [.box [.vw none tyIII a1], .box [ci a2, ci a3, ci a4, .bool a5], .box [ci 0, ci 0, ci 0, .bool false]]⟩ [] trivial ?_ ?_
   rcases condE hF with ⟨he, hF⟩ | ⟨he, hF⟩
   ·
    refine .xT he ?_ ?_
    refine .seq ?_
    refine .vW [] (some ([0, 1, 2], [2, 3, 4, 6, 7, 8])) [] trivial ?_ ?_
    cases hF
    exact .xR hE [] [] (by kernel_rfl)
    all_goals kernel_rfl
   ·
    refine .xF he ?_ ?_
    refine .skip ?_
    refine .inBlock ?_
    refine .seq ?_
    obtain ⟨x8, h21, hF⟩ := bindE hF
    refine .xW [.el tyIII x8] (some ([0, 1, 2, 3], [3, 4, 6, 7, 8, 9])) ⟨[(3, pT 0 0), (4, pT 1 0), (6, pT 2 0), (7, iI 0), (8, iI 0), (9, pT 3 0)], [.box [.vw none tyIII a1], .box [ci a2, ci a3, ci a4, .bool a5], .box [ci 0, ci 0, ci 0, .bool false], .box [ci x8.1, ci x8.2.1, ci x8.2.2]]⟩ [at? a1 a6 = some x8] ⟨h21, trivial⟩ ?_ ?_
    refine .seq ?_
    refine .seq ?_
    refine WT.join (f := fun v11 => F_impl_LinkTake_J9 k a1 a4 a5 x8 v11) (r := r) (S := fun v11 => ⟨[(3, pT 0 0), (4, pT 1 0), (6, pT 2 0), (7, iI 0), (8, iI 0), (9, pT 3 0), (50, bB v11)], [.box [.vw none tyIII a1], .box [ci a2, ci a3, ci a4, .bool a5], .box [ci 0, ci 0, ci 0, .bool false], .box [ci x8.1, ci x8.2.1, ci x8.2.2]]⟩) (fun v11 hF => ?_) (fun hJJ9 => ?_)
    ·
     unfold F_impl_LinkTake_J9 at hF
     rcases condE hF with ⟨he, hF⟩ | ⟨he, hF⟩
     ·
      refine .xT he ?_ ?_
      refine .seq ?_
      refine .vW [] (some ([0, 1, 2, 3], [3, 4, 6, 7, 8, 9])) [] trivial ?_ ?_
      cases hF
      exact .xR hE [] [] (by kernel_rfl)
      all_goals kernel_rfl
     ·
      refine .xF he ?_ ?_
      refine .skip ?_
      refine .seq ?_
      obtain ⟨x13, h22, hF⟩ := bindE hF
      refine .xW [.el tyIII x13] (some ([0, 1, 2, 4], [3, 4, 6, 7, 8, 10])) ⟨[(3, pT 0 0), (4, pT 1 0), (6, pT 2 0), (7, iI 0), (8, iI 0), (10, pT 3 0)], [.box [.vw none tyIII a1], .box [ci a2, ci a3, ci a4, .bool a5], .box [ci 0, ci 0, ci 0, .bool false], .box [ci x13.1, ci x13.2.1, ci x13.2.2]]⟩ [at? a1 x8.2.1 = some x13] ⟨h22, trivial⟩ ?_ ?_
      refine .seq ?_
      refine .seq ?_
      refine WT.join (f := fun v16 => F_impl_LinkTake_J14 k a1 a4 a5 x13 v16) (r := r) (S := fun v16 => ⟨[(3, pT 0 0), (4, pT 1 0), (6, pT 2 0), (7, iI 0), (8, iI 0), (10, pT 3 0), (69, bB v16)], [.box [.vw none tyIII a1], .box [ci a2, ci a3, ci a4, .bool a5], .box [ci 0, ci 0, ci 0, .bool false], .box [ci x13.1, ci x13.2.1, ci x13.2.2]]⟩) (fun v16 hF => ?_) (fun hJJ14 => ?_)
      ·
       unfold F_impl_LinkTake_J14 at hF
       rcases condE hF with ⟨he, hF⟩ | ⟨he, hF⟩
       ·
        refine .xT he ?_ ?_
        refine .seq ?_
        refine .vW [] (some ([0, 1, 2, 3], [3, 4, 6, 7, 8, 10])) [] trivial ?_ ?_
        cases hF
        exact .xR hE [] [] (by kernel_rfl)
        all_goals kernel_rfl
       ·
        refine .xF he ?_ ?_
        refine .skip ?_
        refine .seq ?_
        refine .seq ?_
        refine .uB [0, 1] [2] [] [] rfl trivial ?_ ?_
        obtain ⟨r18, h24, hF⟩ := bindE hF
        refine .uC false [.whole 0] (S_impl_Pool_isName k x13.2.2 8 a1 r18 h24) rfl ?_ ?_
        refine .xE [] (some ([1, 2, 3], [4, 6, 7, 8, 10, 73])) ⟨[(4, pT 0 0), (6, pT 1 0), (7, iI 0), (8, iI 0), (10, pT 2 0), (73, bB r18)], [.box [ci a2, ci a3, ci a4, .bool a5], .box [ci 0, ci 0, ci 0, .bool false], .box [ci x13.1, ci x13.2.1, ci x13.2.2]]⟩ [] trivial ?_ ?_
        rcases condE hF with ⟨he, hF⟩ | ⟨he, hF⟩
        ·
         refine .xT he ?_ ?_
         refine .seq ?_
         refine .vW [] (some ([0, 1, 2], [4, 6, 7, 8, 10])) [] trivial ?_ ?_
         refine .seq ?_
         refine .vW [] (some ([0, 1, 2], [4, 6, 7, 8, 10])) [] trivial ?_ ?_
         cases hF
         exact .xR hE [] [] (by kernel_rfl)
         all_goals kernel_rfl
        ·
         refine .xF he ?_ ?_
         refine .skip ?_
         refine .seq ?_
         refine .xW [] (some ([0, 1, 2], [4, 6, 7, 8, 10])) ⟨[(4, pT 0 0), (6, pT 1 0), (7, iI 0), (8, iI 0), (10, pT 2 0)], [.box [ci a2, ci a3, ci (w64 (a4 + 1)), .bool a5], .box [ci 0, ci 0, ci 0, .bool false], .box [ci x13.1, ci x13.2.1, ci x13.2.2]]⟩ [] trivial ?_ ?_
         refine .seq ?_
         refine WA.xs [.cells 0 0 4, .cells 2 2 1] [.cells 1 0 4] ?_ ?_
         refine WA.fin 6 [] [] (some ([1], [6, 7, 8])) ⟨[(6, pT 0 0), (7, iI x13.2.2), (8, iI 0)], [.box [ci a2, ci a3, ci (w64 (a4 + 1)), .bool a5]]⟩ trivial ?_ ?_
         cases hF
         exact .xR hE [] [] (by kernel_rfl)
         all_goals kernel_rfl
        all_goals kernel_rfl
       all_goals kernel_rfl
      ·
       refine .uB [0, 1, 2, 3] [4, 5, 6, 7, 8, 9, 10, 11] [] [] rfl trivial ?_ ?_
       rcases condE hF with ⟨he, hF⟩ | ⟨he, hF⟩
       ·
        refine WT.putB [61, 60] he ?_ ?_
        refine .vE [] (some ([0, 1, 2, 3], [3, 4, 6, 7, 8, 10, 69])) [] trivial ?_ ?_
        exact .xS [.pick [0, 1, 2, 3] [3, 4, 6, 7, 8, 10, 69]] (hJJ14 (true) hF) (by kernel_rfl)
        all_goals kernel_rfl
       ·
        refine WT.putB [61, 60] he ?_ ?_
        refine .uN [4, 5, 6, 7, 8] [9, 10, 11] [] [] rfl trivial ?_ ?_
        obtain ⟨r15, h25, hF⟩ := bindE hF
        refine .uC false [.whole 0] (S_impl_Pool_isName k x13.2.1 (w64 (20 + a4)) a1 r15 h25) rfl ?_ ?_
        refine .vE [] (some ([0, 1, 2, 3], [3, 4, 6, 7, 8, 10, 69])) [] trivial ?_ ?_
        exact .xS [.pick [0, 1, 2, 3] [3, 4, 6, 7, 8, 10, 69]] (hJJ14 (!r15) hF) (by kernel_rfl)
        all_goals kernel_rfl
       all_goals kernel_rfl
      all_goals kernel_rfl
     all_goals kernel_rfl
    ·
     refine .uB [0, 1, 2, 3] [4, 5, 6, 7, 8, 9, 10, 11, 12, 13, 14, 15, 16, 17, 18, 19] [] [] rfl trivial ?_ ?_
     rcases condE hF with ⟨he, hF⟩ | ⟨he, hF⟩
     ·
      refine WT.putB [34, 33] he ?_ ?_
      refine .vE [] (some ([0, 1, 2, 3], [3, 4, 6, 7, 8, 9, 50])) [] trivial ?_ ?_
      exact .xS [.pick [0, 1, 2, 3] [3, 4, 6, 7, 8, 9, 50]] (hJJ9 (true) hF) (by kernel_rfl)
      all_goals kernel_rfl
     ·
      refine WT.putB [34, 33] he ?_ ?_
      refine .uN [4, 5, 6, 7, 8, 9, 10] [11, 12, 13, 14, 15, 16, 17, 18, 19] [] [] rfl trivial ?_ ?_
      rcases condE hF with ⟨he, hF⟩ | ⟨he, hF⟩
      ·
       refine WT.putB [41, 40, 39] he ?_ ?_
       refine .vE [] (some ([0, 1, 2, 3], [3, 4, 6, 7, 8, 9, 50])) [] trivial ?_ ?_
       exact .xS [.pick [0, 1, 2, 3] [3, 4, 6, 7, 8, 9, 50]] (hJJ9 (true) hF) (by kernel_rfl)
       all_goals kernel_rfl
      ·
       refine WT.putB [41, 40, 39] he ?_ ?_
       obtain ⟨x10, h26, hF⟩ := bindE hF
       refine .vE [.el tyIII x10] (some ([0, 1, 2, 3], [3, 4, 6, 7, 8, 9, 50])) [at? a1 x8.2.1 = some x10] ⟨h26, trivial⟩ ?_ ?_
       exact .xS [.pick [0, 1, 2, 3] [3, 4, 6, 7, 8, 9, 50]] (hJJ9 (x10.1 != 2) hF) (by kernel_rfl)
       all_goals kernel_rfl
      all_goals kernel_rfl
     all_goals kernel_rfl
    all_goals kernel_rfl
   all_goals kernel_rfl
  all_goals kernel_rfl
 ·
  refine .uB [0] [1, 2, 3, 4, 5, 6, 7, 8, 9] [] [] rfl trivial ?_ ?_
  obtain ⟨r3, h28, hF⟩ := bindE hF
  refine .uC false [.whole 0] (S_impl_Pool_isTerm k a6 a1 r3 h28) rfl ?_ ?_
  refine .uN [2, 3] [4, 5, 6, 7, 8, 9] [] [] rfl trivial ?_ ?_
  rcases condE hF with ⟨he, hF⟩ | ⟨he, hF⟩
  ·
   refine WT.putB [15, 14] he ?_ ?_
   refine .vE [] (some ([0, 1, 2], [2, 3, 4, 6, 7, 8, 11])) [] trivial ?_ ?_
   exact .xS [.pick [0, 1, 2] [2, 3, 4, 6, 7, 8, 11]] (hJJ2 (true) hF) (by kernel_rfl)
   all_goals kernel_rfl
  ·
   refine WT.putB [15, 14] he ?_ ?_
   refine .uN [4, 5] [6, 7, 8, 9] [] [] rfl trivial ?_ ?_
   obtain ⟨r4, h27, hF⟩ := bindE hF
   refine .uC false [] (S_impl_LinkOk k a1 a2 a3 a4 a5 r4 h27) rfl ?_ ?_
   refine .vE [] (some ([0, 1, 2], [2, 3, 4, 6, 7, 8, 11])) [] trivial ?_ ?_
   exact .xS [.pick [0, 1, 2] [2, 3, 4, 6, 7, 8, 11]] (hJJ2 (!r4) hF) (by kernel_rfl)
   all_goals kernel_rfl
  all_goals kernel_rfl
 all_goals kernel_rfl
theorem S_impl_Stream_take_b76b (k : Nat) (a1 : ByteArray) (a2 : Int) (a3 : Int) (a4 : Int) (a5 : Bool) (a6 : Int) (a7 : Int) (a8 : Int) (a9 : Bool) (a10 : (List (Int × (Int × Int)))) (a11 : (List Int)) (a12 : (List Int)) (a13 : (List Int)) (r : Bool × Int × Bool × (List (Int × (Int × Int))) × (List Int)) (hF : F_impl_Stream_take_b76b k a1 a2 a3 a4 a5 a6 a7 a8 a9 a10 a11 a12 a13 = some r) : Spec Tryz.prog 69 [pT 0 0, sS a1] [.box [.sl 1, .sl 2, ci a2, ci a3, ci a4, .bool a5, ci a6, ci a7, ci a8, .bool a9, .sl 3, .sl 4], .row tyIII a10, .row tyI a11, .row tyI a12, .row tyI a13] (bB r.1) [.box [.sl 5, .sl 2, ci a2, ci a3, ci a4, .bool a5, ci a6, ci a7, ci r.2.1, .bool r.2.2.1, .sl 3, .sl 6], .dead, .row tyI a11, .row tyI a12, .dead, .row tyIII r.2.2.2.1, .row tyI r.2.2.2.2] := by
 refine Spec.of 5 61 Tryz.func69 rfl rfl (Nat.le_of_ble_eq_true rfl) rfl fun w0 S0 Z0 M0 R0 hE => ?_
 unfold F_impl_Stream_take_b76b at hF
 refine .seq ?_
 refine .xW [] none ⟨[(4, bB false), (0, pT 0 0), (1, sS a1)], [.box [.sl 1, .sl 2, ci a2, ci a3, ci a4, .bool a5, ci a6, ci a7, ci a8, .bool a9, .sl 3, .sl 4], .row tyIII a10, .row tyI a11, .row tyI a12, .row tyI a13]⟩ [] trivial ?_ ?_
 refine .seq ?_
 obtain ⟨r2, h3, hF⟩ := bindE hF
 refine WA.xs [.cells 0 0 1, .cells 0 1 1] [] ?_ ?_
 refine WA.lem (pr' := [.cells 0 0 1, .cells 0 1 1]) (fuel' := 0) (listed' := #[true, true, true, true, true, true, true, true, true, true, true, true, true, true, true, true, true, true, true, true]) (st' := ⟨[(0, pT 0 0), (4, bB false), (5, pT 5 0), (6, iI r2.1), (8, iI r2.2.2.1)], [.box [.sl 1, .sl 2, ci a2, ci a3, ci a4, .bool a5, ci a6, ci a7, ci a8, .bool a9, .sl 3, .sl 4], .row tyIII a10, .row tyI a11, .row tyI a12, .row tyI a13, .box [.sl 6], .row tyIII r2.2.2.2]⟩) ?_ (fun A18 => ?_)
 ·
  refine WA.xD none ⟨[(0, pT 0 0), (4, bB false), (5, pT 5 0), (6, iI r2.1), (8, iI r2.2.2.1)], [.box [.sl 1, .sl 2, ci a2, ci a3, ci a4, .bool a5, ci a6, ci a7, ci a8, .bool a9, .sl 3, .sl 4], .row tyIII a10, .row tyI a11, .row tyI a12, .row tyI a13, .box [.sl 6], .row tyIII r2.2.2.2]⟩ ?_ ?_
  refine .seq ?_
  refine .seq ?_
  refine .xW [] (some ([0, 1, 2, 3, 4, 5, 6], [0, 4, 5, 6, 27])) ⟨[(0, pT 0 0), (4, bB false), (5, pT 5 0), (6, iI r2.1), (27, bB (r2.2.2.1 != 0))], [.box [.sl 1, .sl 2, ci a2, ci a3, ci a4, .bool a5, ci a6, ci a7, ci a8, .bool a9, .sl 3, .sl 4], .row tyIII a10, .row tyI a11, .row tyI a12, .row tyI a13, .box [.sl 6], .row tyIII r2.2.2.2]⟩ [] trivial ?_ ?_
  rcases condE hF with ⟨he, hF⟩ | ⟨he, hF⟩
  ·
   refine .xT he ?_ ?_
   refine .seq ?_
   refine .vW [] (some ([0, 1, 2, 3, 4, 5, 6], [0, 4, 5, 6])) [] trivial ?_ ?_
   cases hF
   exact .xR hE [.mv 1, .mv 4] [0, 1, 2, 3, 4, 7, 8] (by kernel_rfl)
   all_goals kernel_rfl
  ·
   refine .xF he ?_ ?_
   refine .skip ?_
   refine .seq ?_
   obtain ⟨r6, h7, hF⟩ := bindE hF
   refine WA.xs [.cells 0 6 4, .cells 5 0 1] [] ?_ ?_
   refine WA.lem (pr' := [.cells 0 6 4, .cells 5 0 1]) (fuel' := 0) (listed' := #[true, true, true, true, true, true, true, true, true, true, true, true, true, true, true]) (st' := ⟨[(0, pT 0 0), (4, bB false), (5, pT 5 0), (8, iI r6.2.2.2), (9, pT 7 0), (10, iI r6.2.2.1)], [.box [.sl 1, .sl 2, ci a2, ci a3, ci a4, .bool a5, ci a6, ci a7, ci a8, .bool a9, .sl 3, .sl 4], .row tyIII a10, .row tyI a11, .row tyI a12, .row tyI a13, .box [.sl 6], .row tyIII r2.2.2.2, .box [ci a6, ci a7, ci r6.1, .bool r6.2.1]]⟩) ?_ (fun A15 => ?_)
   ·
    refine WA.xD (some ([0, 1, 2, 3, 4, 5, 7, 6], [0, 4, 5, 8, 9, 10])) ⟨[(0, pT 0 0), (4, bB false), (5, pT 5 0), (8, iI r6.2.2.2), (9, pT 6 0), (10, iI r6.2.2.1)], [.box [.sl 1, .sl 2, ci a2, ci a3, ci a4, .bool a5, ci a6, ci a7, ci a8, .bool a9, .sl 3, .sl 4], .row tyIII a10, .row tyI a11, .row tyI a12, .row tyI a13, .box [.sl 7], .box [ci a6, ci a7, ci r6.1, .bool r6.2.1], .row tyIII r2.2.2.2]⟩ ?_ ?_
    refine .seq ?_
    refine .seq ?_
    refine .xW [] (some ([0, 1, 2, 3, 4, 5, 6, 7], [0, 4, 5, 9, 10, 40])) ⟨[(0, pT 0 0), (4, bB false), (5, pT 5 0), (9, pT 6 0), (10, iI r6.2.2.1), (40, bB (r6.2.2.2 != 0))], [.box [.sl 1, .sl 2, ci a2, ci a3, ci a4, .bool a5, ci a6, ci a7, ci a8, .bool a9, .sl 3, .sl 4], .row tyIII a10, .row tyI a11, .row tyI a12, .row tyI a13, .box [.sl 7], .box [ci a6, ci a7, ci r6.1, .bool r6.2.1], .row tyIII r2.2.2.2]⟩ [] trivial ?_ ?_
    rcases condE hF with ⟨he, hF⟩ | ⟨he, hF⟩
    ·
     refine .xT he ?_ ?_
     refine .seq ?_
     refine .vW [] (some ([0, 1, 2, 3, 4, 5, 6, 7], [0, 4, 5, 9, 10])) [] trivial ?_ ?_
     cases hF
     exact .xR hE [.mv 1, .mv 4] [0, 1, 2, 3, 4, 8, 9] (by kernel_rfl)
     all_goals kernel_rfl
    ·
     refine .xF he ?_ ?_
     refine .skip ?_
     refine .seq ?_
     refine WA.xs [.cells 5 0 1, .cells 6 0 4] [.cells 0 0 1, .cells 0 6 4] ?_ ?_
     refine WA.fin 10 [] [] (some ([0, 1, 2, 3, 4, 7], [0, 4, 10])) ⟨[(0, pT 0 0), (4, bB false), (10, iI r6.2.2.1)], [.box [.sl 5, .sl 2, ci a2, ci a3, ci a4, .bool a5, ci a6, ci a7, ci r6.1, .bool r6.2.1, .sl 3, .sl 4], .row tyIII a10, .row tyI a11, .row tyI a12, .row tyI a13, .row tyIII r2.2.2.2]⟩ trivial ?_ ?_
     refine .seq ?_
     refine .seq ?_
     refine .xW [] (some ([0, 1, 2, 3, 4, 5], [0, 4, 10, 50])) ⟨[(0, pT 0 0), (4, bB false), (10, iI r6.2.2.1), (50, bB (decide (r6.2.2.1 ≥ 0)))], [.box [.sl 5, .sl 2, ci a2, ci a3, ci a4, .bool a5, ci a6, ci a7, ci r6.1, .bool r6.2.1, .sl 3, .sl 4], .row tyIII a10, .row tyI a11, .row tyI a12, .row tyI a13, .row tyIII r2.2.2.2]⟩ [] trivial ?_ ?_
     refine WT.join (f := fun v11 => F_impl_Stream_take_b76b_J10 k r2 r6 v11) (r := r) (S := fun v11 => ⟨[(4, bB false)], [.box [.sl 5, .sl 2, ci a2, ci a3, ci a4, .bool a5, ci a6, ci a7, ci r6.1, .bool r6.2.1, .sl 3, .sl 6], .row tyIII a10, .row tyI a11, .row tyI a12, .dead, .row tyIII r2.2.2.2, .row tyI v11]⟩) (fun v11 hF => ?_) (fun hJJ10 => ?_)
     ·
      unfold F_impl_Stream_take_b76b_J10 at hF
      refine .seq ?_
      refine .vW [] none [] trivial ?_ ?_
      cases hF
      exact .xR hE [.mv 1] [0, 1, 2, 3, 4, 5, 6] (by kernel_rfl)
      all_goals kernel_rfl
     ·
      rcases condE hF with ⟨he, hF⟩ | ⟨he, hF⟩
      ·
       refine .xT he ?_ ?_
       refine .uB [0, 1, 2, 3, 4, 5, 6] [7, 8, 9, 10] [.el tyI 0] [] rfl trivial ?_ ?_
       obtain ⟨h12, hF⟩ := iteE hF
       refine .uO [.tmp 55, .tmp 57] false [.whole 4, .whole 6] (append_rows (d := tyI) (xs := a13) (ys := [r6.2.2.1]) rfl (by kernel_rfl) h12) rfl ?_ ?_
       refine .vE [] (some ([0, 1, 2, 3, 4, 5, 7], [4])) [] trivial ?_ ?_
       exact .xS [.pick [0, 1, 2, 3, 4, 5, 6] [4]] (hJJ10 (a13 ++ [r6.2.2.1]) hF) (by kernel_rfl)
       all_goals kernel_rfl
      ·
       refine .xF he ?_ ?_
       refine .skip ?_
       exact .xS [.mv 4, .pick [0, 1, 2, 3, 4, 5, 6] [4]] (hJJ10 (a13) hF) (by kernel_rfl)
       all_goals kernel_rfl
      all_goals kernel_rfl
     all_goals kernel_rfl
    all_goals kernel_rfl
   refine WA.lem (pr' := [.cells 0 6 4, .cells 5 0 1]) (fuel' := 8) (listed' := #[true, true, true, true, true, true, false, false, false, false, false, true, false, false, false]) (st' := ⟨[(0, pT 0 0), (4, bB false), (5, pT 5 0), (9, pT 7 0), (29, aG [.sl 6]), (33, aG [ci a6, ci a7, ci a8, .bool a9]), (34, iI r2.1)], [.box [.sl 1, .sl 2, ci a2, ci a3, ci a4, .bool a5, ci a6, ci a7, ci a8, .bool a9, .sl 3, .sl 4], .row tyIII a10, .row tyI a11, .row tyI a12, .row tyI a13, .box [.sl 6], .row tyIII r2.2.2.2, .box [ci 0, ci 0, ci 0, .bool false]]⟩) ?_ (fun A16 => ?_)
   ·
    refine WA.x1 6 (WO.uC true [] [.cells 0 6 4, .cells 5 0 1] (S_impl_LinkTake k r2.2.2.2 a6 a7 a8 a9 r2.1 r6 h7) rfl ?_ ?_) ?_
    exact WA.to 7 [] [] [0, 1, 2, 3, 4, 5, 6, 7] [0, 4, 5, 8, 9, 10] A15 trivial (by kernel_rfl)
    all_goals kernel_rfl
   refine WA.lem (pr' := [.cells 0 6 4, .cells 5 0 1]) (fuel' := 9) (listed' := #[true, true, true, true, true, true, false, false, false, false, false, false, false, false, false]) (st' := ⟨[(0, pT 0 0), (4, bB false), (5, pT 5 0), (29, aG [.sl 6]), (33, aG [ci a6, ci a7, ci a8, .bool a9]), (34, iI r2.1)], [.box [.sl 1, .sl 2, ci a2, ci a3, ci a4, .bool a5, ci a6, ci a7, ci a8, .bool a9, .sl 3, .sl 4], .row tyIII a10, .row tyI a11, .row tyI a12, .row tyI a13, .box [.sl 6], .row tyIII r2.2.2.2]⟩) ?_ (fun A14 => ?_)
   ·
    refine WA.xf [6, 11] (by simp) (allW2 ?_ ?_) ?_
    ·
     refine WO.uC true [] [.cells 0 6 4, .cells 5 0 1] (S_impl_LinkTake k r2.2.2.2 a6 a7 a8 a9 r2.1 r6 h7) rfl ?_ ?_
     exact WA.to 8 [] [] [0, 1, 2, 3, 4, 5, 6, 7] [0, 4, 5, 8, 9, 10] A15 trivial (by kernel_rfl)
     all_goals kernel_rfl
    ·
     refine WO.uM [] [] trivial ?_ ?_
     exact WA.to 0 [] [] [0, 1, 2, 3, 4, 5, 6, 7] [0, 4, 5, 9, 29, 33, 34] A16 trivial (by kernel_rfl)
     all_goals kernel_rfl
    kernel_rfl
   exact WA.to 6 [] [] [0, 1, 2, 3, 4, 5, 6] [0, 4, 5, 29, 33, 34] A14 trivial (by kernel_rfl)
   all_goals kernel_rfl
  all_goals kernel_rfl
 refine WA.lem (pr' := [.cells 0 0 1, .cells 0 1 1]) (fuel' := 10) (listed' := #[true, true, true, true, true, true, true, true, true, false, false, false, false, false, false, true, false, false, false, false]) (st' := ⟨[(0, pT 0 0), (4, bB false), (5, pT 5 0), (15, aG [.sl 1]), (19, sL 2), (20, sS a1)], [.box [.sl 1, .sl 2, ci a2, ci a3, ci a4, .bool a5, ci a6, ci a7, ci a8, .bool a9, .sl 3, .sl 4], .row tyIII a10, .row tyI a11, .row tyI a12, .row tyI a13, .box [.nilsl]]⟩) ?_ (fun A19 => ?_)
 ·
  refine WA.x1 9 (WO.uC true [] [.cells 0 0 1, .cells 0 1 1] (S_impl_RecipeRun k a10 a11 a1 r2 h3) rfl ?_ ?_) ?_
  exact WA.to 9 [] [] [0, 1, 2, 3, 4, 5, 6] [0, 4, 5, 6, 8] A18 trivial (by kernel_rfl)
  all_goals kernel_rfl
 refine WA.lem (pr' := [.cells 0 0 1, .cells 0 1 1]) (fuel' := 11) (listed' := #[true, true, true, true, true, true, true, true, true, false, false, false, false, false, false, false, false, false, false, false]) (st' := ⟨[(0, pT 0 0), (4, bB false), (15, aG [.sl 1]), (19, sL 2), (20, sS a1)], [.box [.sl 1, .sl 2, ci a2, ci a3, ci a4, .bool a5, ci a6, ci a7, ci a8, .bool a9, .sl 3, .sl 4], .row tyIII a10, .row tyI a11, .row tyI a12, .row tyI a13]⟩) ?_ (fun A17 => ?_)
 ·
  refine WA.xf [9, 15] (by simp) (allW2 ?_ ?_) ?_
  ·
   refine WO.uC true [] [.cells 0 0 1, .cells 0 1 1] (S_impl_RecipeRun k a10 a11 a1 r2 h3) rfl ?_ ?_
   exact WA.to 10 [] [] [0, 1, 2, 3, 4, 6, 5] [0, 4, 5, 6, 8] A18 trivial (by kernel_rfl)
   all_goals kernel_rfl
  ·
   refine WO.uM [] [] trivial ?_ ?_
   exact WA.to 0 [] [] [0, 1, 2, 3, 4, 5] [0, 4, 5, 15, 19, 20] A19 trivial (by kernel_rfl)
   all_goals kernel_rfl
  kernel_rfl
 exact WA.to 9 [] [] [0, 1, 2, 3, 4] [0, 4, 15, 19, 20] A17 trivial (by kernel_rfl)
 all_goals kernel_rfl
theorem S_impl_LinkTurn (k : Nat) (a1 : (List (Int × (Int × Int)))) (a2 : Int) (a3 : Int) (a4 : Int) (a5 : Bool) (r : Int × Int × Int × Bool × Bool × (List (Int × (Int × Int)))) (hF : F_impl_LinkTurn k a1 a2 a3 a4 a5 = some r) : Spec Tryz.prog 100 [aG [.vw none tyIII a1], aG [ci a2, ci a3, ci a4, .bool a5]] [] (.tup [.agg [.sl 0], .agg [ci r.1, ci r.2.1, ci r.2.2.1, .bool r.2.2.2.1], .c (.bool r.2.2.2.2.1)]) [.row tyIII r.2.2.2.2.2] := by
 refine Spec.of 0 42 Tryz.func100 rfl rfl (Nat.le_of_ble_eq_true rfl) rfl fun w0 S0 Z0 M0 R0 hE => ?_
 unfold F_impl_LinkTurn at hF
 refine .seq ?_
 refine .xW [] (some ([0, 1, 2, 3], [2, 3, 4, 5, 6])) ⟨[(2, pT 0 0), (3, pT 1 0), (4, pT 2 0), (5, pT 3 0), (6, bB false)], [.box [.vw none tyIII a1], .box [ci a2, ci a3, ci a4, .bool a5], .box [.nilsl], .box [ci 0, ci 0, ci 0, .bool false]]⟩ [] trivial ?_ ?_
 refine .seq ?_
 refine .seq ?_
 refine WT.join (f := fun v3 => F_impl_LinkTurn_J1 k a1 a2 a3 a4 a5 v3) (r := r) (S := fun v3 => ⟨[(2, pT 0 0), (3, pT 1 0), (4, pT 2 0), (5, pT 3 0), (6, bB false), (21, bB v3)], [.box [.vw none tyIII a1], .box [ci a2, ci a3, ci a4, .bool a5], .box [.nilsl], .box [ci 0, ci 0, ci 0, .bool false]]⟩) (fun v3 hF => ?_) (fun hJJ1 => ?_)
 ·
  unfold F_impl_LinkTurn_J1 at hF
  rcases condE hF with ⟨he, hF⟩ | ⟨he, hF⟩
  ·
   refine .xT he ?_ ?_
   refine .seq ?_
   obtain ⟨r6, h7, hF⟩ := bindE hF
   refine WA.xs [.cells 0 0 1, .cells 1 0 4] [.cells 2 0 1, .cells 3 0 4] ?_ ?_
   refine WA.lem (pr' := [.cells 0 0 1, .cells 1 0 4]) (fuel' := 0) (listed' := #[true, true, true, true, true, true]) (st' := ⟨[(2, pT 0 0), (3, pT 1 0), (4, pT 2 0), (5, pT 3 0), (6, bB false)], [.box [.vw none tyIII a1], .box [ci a2, ci a3, ci a4, .bool a5], .box [.sl 4], .box [ci a2, ci a3, ci a4, .bool a5], .row tyIII r6]⟩) ?_ (fun A20 => ?_)
   ·
    refine WA.xD none ⟨[(2, pT 0 0), (3, pT 1 0), (4, pT 2 0), (5, pT 3 0), (6, bB false)], [.box [.vw none tyIII a1], .box [ci a2, ci a3, ci a4, .bool a5], .box [.sl 4], .box [ci a2, ci a3, ci a4, .bool a5], .row tyIII r6]⟩ ?_ ?_
    cases hF
    exact .xR hE [] [4] (by kernel_rfl)
    all_goals kernel_rfl
   refine WA.lem (pr' := [.cells 0 0 1, .cells 1 0 4]) (fuel' := 4) (listed' := #[true, false, true, false, false, false]) (st' := ⟨[(2, pT 0 0), (3, pT 1 0), (4, pT 2 0), (5, pT 3 0), (6, bB false), (22, aG [.vw none tyIII a1]), (24, aG [ci a2, ci a3, ci a4, .bool a5])], [.box [.vw none tyIII a1], .box [ci a2, ci a3, ci a4, .bool a5], .box [.nilsl], .box [ci 0, ci 0, ci 0, .bool false]]⟩) ?_ (fun A19 => ?_)
   ·
    refine WA.x1 1 (WO.uC false [] [.cells 0 0 1, .cells 1 0 4] (S_impl_orEmpty k a1 r6 h7) rfl ?_ ?_) ?_
    exact WA.to 3 [] [] [0, 1, 2, 3, 4] [2, 3, 4, 5, 6] A20 trivial (by kernel_rfl)
    all_goals kernel_rfl
   exact WA.to 2 [] [] [0, 1, 2, 3] [2, 3, 4, 5, 6, 22, 24] A19 trivial (by kernel_rfl)
   all_goals kernel_rfl
  ·
   refine .xF he ?_ ?_
   refine .skip ?_
   refine .seq ?_
   refine .uB [0] [1, 2, 3] [] [] rfl trivial ?_ ?_
   obtain ⟨r8, h27, hF⟩ := bindE hF
   refine .uC false [] (S_impl_copyPool k a1 r8 h27) rfl ?_ ?_
   refine .xE [] (some ([0, 1, 2, 3, 5, 4], [2, 3, 4, 5, 6, 7])) ⟨[(2, pT 0 0), (3, pT 1 0), (4, pT 2 0), (5, pT 3 0), (6, bB false), (7, pT 4 0)], [.box [.vw none tyIII a1], .box [ci a2, ci a3, ci a4, .bool a5], .box [.nilsl], .box [ci 0, ci 0, ci 0, .bool false], .box [.sl 5], .row tyIII r8]⟩ [] trivial ?_ ?_
   refine .seq ?_
   obtain ⟨r10, h12, hF⟩ := bindE hF
   obtain ⟨r11, h13, hF⟩ := bindE hF
   refine WA.xs [.cells 1 0 1] [.cells 4 0 1, .dep (some 5)] ?_ ?_
   refine WA.lem (pr' := [.cells 1 0 1]) (fuel' := 0) (listed' := #[true, true, true, true, true]) (st' := ⟨[(2, pT 0 0), (3, pT 1 0), (4, pT 2 0), (5, pT 3 0), (6, bB false), (7, pT 4 0), (8, iI r11.1)], [.box [.vw none tyIII a1], .box [ci a2, ci a3, ci a4, .bool a5], .box [.nilsl], .box [ci 0, ci 0, ci 0, .bool false], .box [.sl 6], .dead, .row tyIII r11.2]⟩) ?_ (fun A26 => ?_)
   ·
    refine WA.xD (some ([0, 1, 2, 3, 4, 6], [2, 3, 4, 5, 6, 7, 8])) ⟨[(2, pT 0 0), (3, pT 1 0), (4, pT 2 0), (5, pT 3 0), (6, bB false), (7, pT 4 0), (8, iI r11.1)], [.box [.vw none tyIII a1], .box [ci a2, ci a3, ci a4, .bool a5], .box [.nilsl], .box [ci 0, ci 0, ci 0, .bool false], .box [.sl 5], .row tyIII r11.2]⟩ ?_ ?_
    refine .seq ?_
    refine .seq ?_
    refine .xW [] (some ([0, 1, 2, 3, 4, 5], [2, 3, 4, 5, 6, 7, 8, 32])) ⟨[(2, pT 0 0), (3, pT 1 0), (4, pT 2 0), (5, pT 3 0), (6, bB false), (7, pT 4 0), (8, iI r11.1), (32, bB (decide (r11.1 < 0)))], [.box [.vw none tyIII a1], .box [ci a2, ci a3, ci a4, .bool a5], .box [.nilsl], .box [ci 0, ci 0, ci 0, .bool false], .box [.sl 5], .row tyIII r11.2]⟩ [] trivial ?_ ?_
    rcases condE hF with ⟨he, hF⟩ | ⟨he, hF⟩
    ·
     refine .xT he ?_ ?_
     refine .seq ?_
     obtain ⟨r16, h17, hF⟩ := bindE hF
     refine WA.xs [.cells 0 0 1, .cells 1 0 4] [.cells 2 0 1, .cells 3 0 4] ?_ ?_
     refine WA.lem (pr' := [.cells 0 0 1, .cells 1 0 4]) (fuel' := 0) (listed' := #[true, true, true, true, true, true]) (st' := ⟨[(3, pT 1 0), (4, pT 2 0), (5, pT 3 0), (6, bB false), (7, pT 4 0), (8, iI r11.1)], [.box [.vw none tyIII a1], .box [ci a2, ci a3, ci a4, .bool a5], .box [.sl 6], .box [ci a2, ci a3, ci a4, .bool a5], .box [.sl 5], .row tyIII r11.2, .row tyIII r16]⟩) ?_ (fun A22 => ?_)
     ·
      refine WA.xD (some ([1, 2, 3, 4, 6, 5], [3, 4, 5, 6, 7, 8])) ⟨[(3, pT 0 0), (4, pT 1 0), (5, pT 2 0), (6, bB false), (7, pT 3 0), (8, iI r11.1)], [.box [ci a2, ci a3, ci a4, .bool a5], .box [.sl 4], .box [ci a2, ci a3, ci a4, .bool a5], .box [.sl 5], .row tyIII r16, .row tyIII r11.2]⟩ ?_ ?_
      cases hF
      exact .xR hE [] [4] (by kernel_rfl)
      all_goals kernel_rfl
     refine WA.lem (pr' := [.cells 0 0 1, .cells 1 0 4]) (fuel' := 4) (listed' := #[true, false, true, false, false, false]) (st' := ⟨[(3, pT 1 0), (4, pT 2 0), (5, pT 3 0), (6, bB false), (7, pT 4 0), (8, iI r11.1), (33, aG [.vw none tyIII a1]), (35, aG [ci a2, ci a3, ci a4, .bool a5])], [.box [.vw none tyIII a1], .box [ci a2, ci a3, ci a4, .bool a5], .box [.nilsl], .box [ci 0, ci 0, ci 0, .bool false], .box [.sl 5], .row tyIII r11.2]⟩) ?_ (fun A21 => ?_)
     ·
      refine WA.x1 1 (WO.uC false [] [.cells 0 0 1, .cells 1 0 4] (S_impl_copyPool k a1 r16 h17) rfl ?_ ?_) ?_
      exact WA.to 3 [] [] [0, 1, 2, 3, 4, 5, 6] [3, 4, 5, 6, 7, 8] A22 trivial (by kernel_rfl)
      all_goals kernel_rfl
     exact WA.to 2 [] [] [0, 1, 2, 3, 4, 5] [3, 4, 5, 6, 7, 8, 33, 35] A21 trivial (by kernel_rfl)
     all_goals kernel_rfl
    ·
     refine .xF he ?_ ?_
     refine .skip ?_
     refine .seq ?_
     refine WA.xs [.cells 1 1 1, .cells 4 0 1] [.cells 2 0 1, .cells 3 0 4] ?_ ?_
     refine WA.fin 9 [] [] (some ([2, 3, 5], [4, 5, 6])) ⟨[(4, pT 0 0), (5, pT 1 0), (6, bB true)], [.box [.sl 2], .box [ci r11.1, ci (w64 (a3 + 1)), ci 0, .bool false], .row tyIII r11.2]⟩ trivial ?_ ?_
     cases hF
     exact .xR hE [] [2] (by kernel_rfl)
     all_goals kernel_rfl
    all_goals kernel_rfl
   refine WA.lem (pr' := [.cells 1 0 1]) (fuel' := 2) (listed' := #[true, true, true, false, false]) (st' := ⟨[(2, pT 0 0), (3, pT 1 0), (4, pT 2 0), (5, pT 3 0), (6, bB false), (7, pT 4 0), (28, iI a2), (29, iI r10.1)], [.box [.vw none tyIII a1], .box [ci a2, ci a3, ci a4, .bool a5], .box [.nilsl], .box [ci 0, ci 0, ci 0, .bool false], .box [.sl 6], .dead, .row tyIII r10.2]⟩) ?_ (fun A25 => ?_)
   ·
    refine WA.x1 3 (WO.uC false [.whole 4, .whole 6] [.cells 1 0 1] (S_impl_Pool_add_20d6 k 6 a2 r10.1 r10.2 r11 h13) rfl ?_ ?_) ?_
    exact WA.to 1 [] [] [0, 1, 2, 3, 4, 5, 7] [2, 3, 4, 5, 6, 7, 8] A26 trivial (by kernel_rfl)
    all_goals kernel_rfl
   refine WA.lem (pr' := [.cells 1 0 1]) (fuel' := 3) (listed' := #[true, true, false, false, false]) (st' := ⟨[(2, pT 0 0), (3, pT 1 0), (4, pT 2 0), (5, pT 3 0), (6, bB false), (7, pT 4 0), (28, iI a2)], [.box [.vw none tyIII a1], .box [ci a2, ci a3, ci a4, .bool a5], .box [.nilsl], .box [ci 0, ci 0, ci 0, .bool false], .box [.sl 5], .row tyIII r8]⟩) ?_ (fun A24 => ?_)
   ·
    refine WA.x1 2 (WO.uC false [.whole 4, .whole 5] [.cells 1 0 1] (S_impl_Pool_name_3ca5 k 7 r8 r10 h12) rfl ?_ ?_) ?_
    exact WA.to 0 [] [] [0, 1, 2, 3, 4, 5, 6] [2, 3, 4, 5, 6, 7, 28, 29] A25 trivial (by kernel_rfl)
    all_goals kernel_rfl
   exact WA.to 2 [] [] [0, 1, 2, 3, 4, 5] [2, 3, 4, 5, 6, 7, 28] A24 trivial (by kernel_rfl)
   all_goals kernel_rfl
  all_goals kernel_rfl
 ·
  refine .uB [0, 1, 2] [3, 4, 5, 6, 7, 8, 9, 10, 11, 12] [] [] rfl trivial ?_ ?_
  rcases condE hF with ⟨he, hF⟩ | ⟨he, hF⟩
  ·
   refine WT.putB [11, 10] he ?_ ?_
   refine .vE [] (some ([0, 1, 2, 3], [2, 3, 4, 5, 6, 21])) [] trivial ?_ ?_
   exact .xS [.pick [0, 1, 2, 3] [2, 3, 4, 5, 6, 21]] (hJJ1 (true) hF) (by kernel_rfl)
   all_goals kernel_rfl
  ·
   refine WT.putB [11, 10] he ?_ ?_
   refine .uN [3, 4, 5, 6, 7] [8, 9, 10, 11, 12] [] [] rfl trivial ?_ ?_
   rcases condE hF with ⟨he, hF⟩ | ⟨he, hF⟩
   ·
    refine WT.putB [16, 15, 14] he ?_ ?_
    refine .vE [] (some ([0, 1, 2, 3], [2, 3, 4, 5, 6, 21])) [] trivial ?_ ?_
    exact .xS [.pick [0, 1, 2, 3] [2, 3, 4, 5, 6, 21]] (hJJ1 (true) hF) (by kernel_rfl)
    all_goals kernel_rfl
   ·
    refine WT.putB [16, 15, 14] he ?_ ?_
    refine .uN [8, 9] [10, 11, 12] [] [] rfl trivial ?_ ?_
    obtain ⟨r2, h28, hF⟩ := bindE hF
    refine .uC false [] (S_impl_LinkOk k a1 a2 a3 a4 a5 r2 h28) rfl ?_ ?_
    refine .vE [] (some ([0, 1, 2, 3], [2, 3, 4, 5, 6, 21])) [] trivial ?_ ?_
    exact .xS [.pick [0, 1, 2, 3] [2, 3, 4, 5, 6, 21]] (hJJ1 (!r2) hF) (by kernel_rfl)
    all_goals kernel_rfl
   all_goals kernel_rfl
  all_goals kernel_rfl
 all_goals kernel_rfl
theorem S_impl_Stream_turn_9350 (k : Nat) (a1 : Int) (a2 : Int) (a3 : Int) (a4 : Bool) (a5 : Int) (a6 : Int) (a7 : Int) (a8 : Bool) (a9 : (List (Int × (Int × Int)))) (a10 : (List Int)) (a11 : (List Int)) (a12 : (List Int)) (r : Bool × Int × Int × Int × Bool × (List (Int × (Int × Int)))) (hF : F_impl_Stream_turn_9350 k a1 a2 a3 a4 a5 a6 a7 a8 a9 a10 a11 a12 = some r) : Spec Tryz.prog 70 [pT 0 0, pT 0 2] [.box [.sl 1, .sl 2, ci a1, ci a2, ci a3, .bool a4, ci a5, ci a6, ci a7, .bool a8, .sl 3, .sl 4], .row tyIII a9, .row tyI a10, .row tyI a11, .row tyI a12] (bB r.1) [.box [.sl 5, .sl 2, ci r.2.1, ci r.2.2.1, ci r.2.2.2.1, .bool r.2.2.2.2.1, ci a5, ci a6, ci a7, .bool a8, .sl 3, .sl 4], .row tyIII a9, .row tyI a10, .row tyI a11, .row tyI a12, .row tyIII r.2.2.2.2.2] := by
 refine Spec.of 5 28 Tryz.func70 rfl rfl (Nat.le_of_ble_eq_true rfl) rfl fun w0 S0 Z0 M0 R0 hE => ?_
 unfold F_impl_Stream_turn_9350 at hF
 refine .seq ?_
 refine .xW [] none ⟨[(4, bB false), (0, pT 0 0), (1, pT 0 2)], [.box [.sl 1, .sl 2, ci a1, ci a2, ci a3, .bool a4, ci a5, ci a6, ci a7, .bool a8, .sl 3, .sl 4], .row tyIII a9, .row tyI a10, .row tyI a11, .row tyI a12]⟩ [] trivial ?_ ?_
 refine .seq ?_
 obtain ⟨r2, h3, hF⟩ := bindE hF
 refine WA.xs [.cells 0 0 1, .cells 0 2 4] [] ?_ ?_
 refine WA.lem (pr' := [.cells 0 0 1, .cells 0 2 4]) (fuel' := 0) (listed' := #[true, true, true, true, true, true, true, true, true, true, true, true, true, true, true, true, true]) (st' := ⟨[(0, pT 0 0), (1, pT 0 2), (4, bB false), (5, pT 5 0), (6, pT 6 0), (7, bB r2.2.2.2.2.1)], [.box [.sl 1, .sl 2, ci a1, ci a2, ci a3, .bool a4, ci a5, ci a6, ci a7, .bool a8, .sl 3, .sl 4], .row tyIII a9, .row tyI a10, .row tyI a11, .row tyI a12, .box [.sl 7], .box [ci r2.1, ci r2.2.1, ci r2.2.2.1, .bool r2.2.2.2.1], .row tyIII r2.2.2.2.2.2]⟩) ?_ (fun A10 => ?_)
 ·
  refine WA.xD none ⟨[(0, pT 0 0), (1, pT 0 2), (4, bB false), (5, pT 5 0), (6, pT 6 0), (7, bB r2.2.2.2.2.1)], [.box [.sl 1, .sl 2, ci a1, ci a2, ci a3, .bool a4, ci a5, ci a6, ci a7, .bool a8, .sl 3, .sl 4], .row tyIII a9, .row tyI a10, .row tyI a11, .row tyI a12, .box [.sl 7], .box [ci r2.1, ci r2.2.1, ci r2.2.2.1, .bool r2.2.2.2.1], .row tyIII r2.2.2.2.2.2]⟩ ?_ ?_
  refine .seq ?_
  refine WA.xs [.cells 5 0 1, .cells 6 0 4] [.cells 0 0 1, .cells 0 2 4] ?_ ?_
  refine WA.fin 9 [] [] (some ([0, 1, 2, 3, 4, 7], [4, 7])) ⟨[(4, bB false), (7, bB r2.2.2.2.2.1)], [.box [.sl 5, .sl 2, ci r2.1, ci r2.2.1, ci r2.2.2.1, .bool r2.2.2.2.1, ci a5, ci a6, ci a7, .bool a8, .sl 3, .sl 4], .row tyIII a9, .row tyI a10, .row tyI a11, .row tyI a12, .row tyIII r2.2.2.2.2.2]⟩ trivial ?_ ?_
  refine .seq ?_
  refine .vW [] (some ([0, 1, 2, 3, 4, 5], [4])) [] trivial ?_ ?_
  cases hF
  exact .xR hE [] [0, 1, 2, 3, 4, 5] (by kernel_rfl)
  all_goals kernel_rfl
 refine WA.lem (pr' := [.cells 0 0 1, .cells 0 2 4]) (fuel' := 5) (listed' := #[true, true, true, true, true, true, true, true, true, true, true, true, false, false, false, false, false]) (st' := ⟨[(0, pT 0 0), (1, pT 0 2), (4, bB false), (17, aG [.sl 5]), (18, aG [ci r2.1, ci r2.2.1, ci r2.2.2.1, .bool r2.2.2.2.1]), (19, bB r2.2.2.2.2.1)], [.box [.sl 1, .sl 2, ci a1, ci a2, ci a3, .bool a4, ci a5, ci a6, ci a7, .bool a8, .sl 3, .sl 4], .row tyIII a9, .row tyI a10, .row tyI a11, .row tyI a12, .row tyIII r2.2.2.2.2.2]⟩) ?_ (fun A7 => ?_)
 ·
  refine WA.xf [12, 13] (by simp) (allW2 ?_ ?_) ?_
  ·
   refine WO.uM [] [] trivial ?_ ?_
   exact WA.to 4 [] [] [0, 1, 2, 3, 4, 6, 7, 5] [0, 1, 4, 5, 6, 7] A10 trivial (by kernel_rfl)
   all_goals kernel_rfl
  ·
   refine WO.uM [] [] trivial ?_ ?_
   exact WA.to 4 [] [] [0, 1, 2, 3, 4, 7, 6, 5] [0, 1, 4, 5, 6, 7] A10 trivial (by kernel_rfl)
   all_goals kernel_rfl
  kernel_rfl
 refine WA.lem (pr' := [.cells 0 0 1, .cells 0 2 4]) (fuel' := 8) (listed' := #[true, true, true, true, true, true, true, false, false, false, false, false, true, true, false, false, false]) (st' := ⟨[(0, pT 0 0), (1, pT 0 2), (4, bB false), (5, pT 5 0), (6, pT 6 0), (12, aG [.sl 1]), (15, aG [ci a1, ci a2, ci a3, .bool a4])], [.box [.sl 1, .sl 2, ci a1, ci a2, ci a3, .bool a4, ci a5, ci a6, ci a7, .bool a8, .sl 3, .sl 4], .row tyIII a9, .row tyI a10, .row tyI a11, .row tyI a12, .box [.nilsl], .box [ci 0, ci 0, ci 0, .bool false]]⟩) ?_ (fun A11 => ?_)
 ·
  refine WA.x1 7 (WO.uC true [] [.cells 0 0 1, .cells 0 2 4] (S_impl_LinkTurn k a9 a1 a2 a3 a4 r2 h3) rfl ?_ ?_) ?_
  exact WA.to 7 [] [] [0, 1, 2, 3, 4, 5, 6, 7] [0, 1, 4, 5, 6, 7] A10 trivial (by kernel_rfl)
  all_goals kernel_rfl
 refine WA.lem (pr' := [.cells 0 0 1, .cells 0 2 4]) (fuel' := 9) (listed' := #[true, true, true, true, true, true, true, false, false, false, false, false, true, false, false, false, false]) (st' := ⟨[(0, pT 0 0), (1, pT 0 2), (4, bB false), (5, pT 5 0), (12, aG [.sl 1]), (15, aG [ci a1, ci a2, ci a3, .bool a4])], [.box [.sl 1, .sl 2, ci a1, ci a2, ci a3, .bool a4, ci a5, ci a6, ci a7, .bool a8, .sl 3, .sl 4], .row tyIII a9, .row tyI a10, .row tyI a11, .row tyI a12, .box [.nilsl]]⟩) ?_ (fun A8 => ?_)
 ·
  refine WA.xf [7, 13] (by simp) (allW2 ?_ ?_) ?_
  ·
   refine WO.uC true [] [.cells 0 0 1, .cells 0 2 4] (S_impl_LinkTurn k a9 a1 a2 a3 a4 r2 h3) rfl ?_ ?_
   exact WA.to 8 [] [] [0, 1, 2, 3, 4, 5, 7, 6] [0, 1, 4, 5, 6, 7] A10 trivial (by kernel_rfl)
   all_goals kernel_rfl
  ·
   refine WO.uM [] [] trivial ?_ ?_
   exact WA.to 0 [] [] [0, 1, 2, 3, 4, 5, 6] [0, 1, 4, 5, 6, 12, 15] A11 trivial (by kernel_rfl)
   all_goals kernel_rfl
  kernel_rfl
 refine WA.lem (pr' := [.cells 0 0 1, .cells 0 2 4]) (fuel' := 9) (listed' := #[true, true, true, true, true, true, true, false, false, false, false, false, false, true, false, false, false]) (st' := ⟨[(0, pT 0 0), (1, pT 0 2), (4, bB false), (6, pT 5 0), (12, aG [.sl 1]), (15, aG [ci a1, ci a2, ci a3, .bool a4])], [.box [.sl 1, .sl 2, ci a1, ci a2, ci a3, .bool a4, ci a5, ci a6, ci a7, .bool a8, .sl 3, .sl 4], .row tyIII a9, .row tyI a10, .row tyI a11, .row tyI a12, .box [ci 0, ci 0, ci 0, .bool false]]⟩) ?_ (fun A9 => ?_)
 ·
  refine WA.xf [7, 12] (by simp) (allW2 ?_ ?_) ?_
  ·
   refine WO.uC true [] [.cells 0 0 1, .cells 0 2 4] (S_impl_LinkTurn k a9 a1 a2 a3 a4 r2 h3) rfl ?_ ?_
   exact WA.to 8 [] [] [0, 1, 2, 3, 4, 7, 5, 6] [0, 1, 4, 5, 6, 7] A10 trivial (by kernel_rfl)
   all_goals kernel_rfl
  ·
   refine WO.uM [] [] trivial ?_ ?_
   exact WA.to 0 [] [] [0, 1, 2, 3, 4, 6, 5] [0, 1, 4, 5, 6, 12, 15] A11 trivial (by kernel_rfl)
   all_goals kernel_rfl
  kernel_rfl
 refine WA.lem (pr' := [.cells 0 0 1, .cells 0 2 4]) (fuel' := 10) (listed' := #[true, true, true, true, true, true, true, false, false, false, false, false, false, false, false, false, false]) (st' := ⟨[(0, pT 0 0), (1, pT 0 2), (4, bB false), (12, aG [.sl 1]), (15, aG [ci a1, ci a2, ci a3, .bool a4])], [.box [.sl 1, .sl 2, ci a1, ci a2, ci a3, .bool a4, ci a5, ci a6, ci a7, .bool a8, .sl 3, .sl 4], .row tyIII a9, .row tyI a10, .row tyI a11, .row tyI a12]⟩) ?_ (fun A6 => ?_)
 ·
  refine WA.xf [7, 12, 13] (by simp) (allW3 ?_ ?_ ?_) ?_
  ·
   refine WO.uC true [] [.cells 0 0 1, .cells 0 2 4] (S_impl_LinkTurn k a9 a1 a2 a3 a4 r2 h3) rfl ?_ ?_
   exact WA.to 4 [] [] [0, 1, 2, 3, 4, 5] [0, 1, 4, 17, 18, 19] A7 trivial (by kernel_rfl)
   all_goals kernel_rfl
  ·
   refine WO.uM [] [] trivial ?_ ?_
   exact WA.to 0 [] [] [0, 1, 2, 3, 4, 5] [0, 1, 4, 5, 12, 15] A8 trivial (by kernel_rfl)
   all_goals kernel_rfl
  ·
   refine WO.uM [] [] trivial ?_ ?_
   exact WA.to 0 [] [] [0, 1, 2, 3, 4, 5] [0, 1, 4, 6, 12, 15] A9 trivial (by kernel_rfl)
   all_goals kernel_rfl
  kernel_rfl
 exact WA.to 7 [] [] [0, 1, 2, 3, 4] [0, 1, 4, 12, 15] A6 trivial (by kernel_rfl)
 all_goals kernel_rfl
theorem S_impl_Stream_turn_82d8 (k : Nat) (a1 : Int) (a2 : Int) (a3 : Int) (a4 : Bool) (a5 : Int) (a6 : Int) (a7 : Int) (a8 : Bool) (a9 : (List (Int × (Int × Int)))) (a10 : (List Int)) (a11 : (List Int)) (a12 : (List Int)) (r : Bool × Int × Int × Int × Bool × (List (Int × (Int × Int)))) (hF : F_impl_Stream_turn_82d8 k a1 a2 a3 a4 a5 a6 a7 a8 a9 a10 a11 a12 = some r) : Spec Tryz.prog 70 [pT 0 0, pT 0 6] [.box [.sl 1, .sl 2, ci a1, ci a2, ci a3, .bool a4, ci a5, ci a6, ci a7, .bool a8, .sl 3, .sl 4], .row tyIII a9, .row tyI a10, .row tyI a11, .row tyI a12] (bB r.1) [.box [.sl 5, .sl 2, ci a1, ci a2, ci a3, .bool a4, ci r.2.1, ci r.2.2.1, ci r.2.2.2.1, .bool r.2.2.2.2.1, .sl 3, .sl 4], .row tyIII a9, .row tyI a10, .row tyI a11, .row tyI a12, .row tyIII r.2.2.2.2.2] := by
 refine Spec.of 5 28 Tryz.func70 rfl rfl (Nat.le_of_ble_eq_true rfl) rfl fun w0 S0 Z0 M0 R0 hE => ?_
 unfold F_impl_Stream_turn_82d8 at hF
 refine .seq ?_
 refine .xW [] none ⟨[(4, bB false), (0, pT 0 0), (1, pT 0 6)], [.box [.sl 1, .sl 2, ci a1, ci a2, ci a3, .bool a4, ci a5, ci a6, ci a7, .bool a8, .sl 3, .sl 4], .row tyIII a9, .row tyI a10, .row tyI a11, .row tyI a12]⟩ [] trivial ?_ ?_
 refine .seq ?_
 obtain ⟨r2, h3, hF⟩ := bindE hF
 refine WA.xs [.cells 0 0 1, .cells 0 6 4] [] ?_ ?_
 refine WA.lem (pr' := [.cells 0 0 1, .cells 0 6 4]) (fuel' := 0) (listed' := #[true, true, true, true, true, true, true, true, true, true, true, true, true, true, true, true, true]) (st' := ⟨[(0, pT 0 0), (1, pT 0 6), (4, bB false), (5, pT 5 0), (6, pT 6 0), (7, bB r2.2.2.2.2.1)], [.box [.sl 1, .sl 2, ci a1, ci a2, ci a3, .bool a4, ci a5, ci a6, ci a7, .bool a8, .sl 3, .sl 4], .row tyIII a9, .row tyI a10, .row tyI a11, .row tyI a12, .box [.sl 7], .box [ci r2.1, ci r2.2.1, ci r2.2.2.1, .bool r2.2.2.2.1], .row tyIII r2.2.2.2.2.2]⟩) ?_ (fun A10 => ?_)
 ·
  refine WA.xD none ⟨[(0, pT 0 0), (1, pT 0 6), (4, bB false), (5, pT 5 0), (6, pT 6 0), (7, bB r2.2.2.2.2.1)], [.box [.sl 1, .sl 2, ci a1, ci a2, ci a3, .bool a4, ci a5, ci a6, ci a7, .bool a8, .sl 3, .sl 4], .row tyIII a9, .row tyI a10, .row tyI a11, .row tyI a12, .box [.sl 7], .box [ci r2.1, ci r2.2.1, ci r2.2.2.1, .bool r2.2.2.2.1], .row tyIII r2.2.2.2.2.2]⟩ ?_ ?_
  refine .seq ?_
  refine WA.xs [.cells 5 0 1, .cells 6 0 4] [.cells 0 0 1, .cells 0 6 4] ?_ ?_
  refine WA.fin 9 [] [] (some ([0, 1, 2, 3, 4, 7], [4, 7])) ⟨[(4, bB false), (7, bB r2.2.2.2.2.1)], [.box [.sl 5, .sl 2, ci a1, ci a2, ci a3, .bool a4, ci r2.1, ci r2.2.1, ci r2.2.2.1, .bool r2.2.2.2.1, .sl 3, .sl 4], .row tyIII a9, .row tyI a10, .row tyI a11, .row tyI a12, .row tyIII r2.2.2.2.2.2]⟩ trivial ?_ ?_
  refine .seq ?_
  refine .vW [] (some ([0, 1, 2, 3, 4, 5], [4])) [] trivial ?_ ?_
  cases hF
  exact .xR hE [] [0, 1, 2, 3, 4, 5] (by kernel_rfl)
  all_goals kernel_rfl
 refine WA.lem (pr' := [.cells 0 0 1, .cells 0 6 4]) (fuel' := 5) (listed' := #[true, true, true, true, true, true, true, true, true, true, true, true, false, false, false, false, false]) (st' := ⟨[(0, pT 0 0), (1, pT 0 6), (4, bB false), (17, aG [.sl 5]), (18, aG [ci r2.1, ci r2.2.1, ci r2.2.2.1, .bool r2.2.2.2.1]), (19, bB r2.2.2.2.2.1)], [.box [.sl 1, .sl 2, ci a1, ci a2, ci a3, .bool a4, ci a5, ci a6, ci a7, .bool a8, .sl 3, .sl 4], .row tyIII a9, .row tyI a10, .row tyI a11, .row tyI a12, .row tyIII r2.2.2.2.2.2]⟩) ?_ (fun A7 => ?_)
 ·
  refine WA.xf [12, 13] (by simp) (allW2 ?_ ?_) ?_
  ·
   refine WO.uM [] [] trivial ?_ ?_
   exact WA.to 4 [] [] [0, 1, 2, 3, 4, 6, 7, 5] [0, 1, 4, 5, 6, 7] A10 trivial (by kernel_rfl)
   all_goals kernel_rfl
  ·
   refine WO.uM [] [] trivial ?_ ?_
   exact WA.to 4 [] [] [0, 1, 2, 3, 4, 7, 6, 5] [0, 1, 4, 5, 6, 7] A10 trivial (by kernel_rfl)
   all_goals kernel_rfl
  kernel_rfl
 refine WA.lem (pr' := [.cells 0 0 1, .cells 0 6 4]) (fuel' := 8) (listed' := #[true, true, true, true, true, true, true, false, false, false, false, false, true, true, false, false, false]) (st' := ⟨[(0, pT 0 0), (1, pT 0 6), (4, bB false), (5, pT 5 0), (6, pT 6 0), (12, aG [.sl 1]), (15, aG [ci a5, ci a6, ci a7, .bool a8])], [.box [.sl 1, .sl 2, ci a1, ci a2, ci a3, .bool a4, ci a5, ci a6, ci a7, .bool a8, .sl 3, .sl 4], .row tyIII a9, .row tyI a10, .row tyI a11, .row tyI a12, .box [.nilsl], .box [ci 0, ci 0, ci 0, .bool false]]⟩) ?_ (fun A11 => ?_)
 ·
  refine WA.x1 7 (WO.uC true [] [.cells 0 0 1, .cells 0 6 4] (S_impl_LinkTurn k a9 a5 a6 a7 a8 r2 h3) rfl ?_ ?_) ?_
  exact WA.to 7 [] [] [0, 1, 2, 3, 4, 5, 6, 7] [0, 1, 4, 5, 6, 7] A10 trivial (by kernel_rfl)
  all_goals kernel_rfl
 refine WA.lem (pr' := [.cells 0 0 1, .cells 0 6 4]) (fuel' := 9) (listed' := #[true, true, true, true, true, true, true, false, false, false, false, false, true, false, false, false, false]) (st' := ⟨[(0, pT 0 0), (1, pT 0 6), (4, bB false), (5, pT 5 0), (12, aG [.sl 1]), (15, aG [ci a5, ci a6, ci a7, .bool a8])], [.box [.sl 1, .sl 2, ci a1, ci a2, ci a3, .bool a4, ci a5, ci a6, ci a7, .bool a8, .sl 3, .sl 4], .row tyIII a9, .row tyI a10, .row tyI a11, .row tyI a12, .box [.nilsl]]⟩) ?_ (fun A8 => ?_)
 ·
  refine WA.xf [7, 13] (by simp) (allW2 ?_ ?_) ?_
  ·
   refine WO.uC true [] [.cells 0 0 1, .cells 0 6 4] (S_impl_LinkTurn k a9 a5 a6 a7 a8 r2 h3) rfl ?_ ?_
   exact WA.to 8 [] [] [0, 1, 2, 3, 4, 5, 7, 6] [0, 1, 4, 5, 6, 7] A10 trivial (by kernel_rfl)
   all_goals kernel_rfl
  ·
   refine WO.uM [] [] trivial ?_ ?_
   exact WA.to 0 [] [] [0, 1, 2, 3, 4, 5, 6] [0, 1, 4, 5, 6, 12, 15] A11 trivial (by kernel_rfl)
   all_goals kernel_rfl
  kernel_rfl
 refine WA.lem (pr' := [.cells 0 0 1, .cells 0 6 4]) (fuel' := 9) (listed' := #[true, true, true, true, true, true, true, false, false, false, false, false, false, true, false, false, false]) (st' := ⟨[(0, pT 0 0), (1, pT 0 6), (4, bB false), (6, pT 5 0), (12, aG [.sl 1]), (15, aG [ci a5, ci a6, ci a7, .bool a8])], [.box [.sl 1, .sl 2, ci a1, ci a2, ci a3, .bool a4, ci a5, ci a6, ci a7, .bool a8, .sl 3, .sl 4], .row tyIII a9, .row tyI a10, .row tyI a11, .row tyI a12, .box [ci 0, ci 0, ci 0, .bool false]]⟩) ?_ (fun A9 => ?_)
 ·
  refine WA.xf [7, 12] (by simp) (allW2 ?_ ?_) ?_
  ·
   refine WO.uC true [] [.cells 0 0 1, .cells 0 6 4] (S_impl_LinkTurn k a9 a5 a6 a7 a8 r2 h3) rfl ?_ ?_
   exact WA.to 8 [] [] [0, 1, 2, 3, 4, 7, 5, 6] [0, 1, 4, 5, 6, 7] A10 trivial (by kernel_rfl)
   all_goals kernel_rfl
  ·
   refine WO.uM [] [] trivial ?_ ?_
   exact WA.to 0 [] [] [0, 1, 2, 3, 4, 6, 5] [0, 1, 4, 5, 6, 12, 15] A11 trivial (by kernel_rfl)
   all_goals kernel_rfl
  kernel_rfl
 refine WA.lem (pr' := [.cells 0 0 1, .cells 0 6 4]) (fuel' := 10) (listed' := #[true, true, true, true, true, true, true, false, false, false, false, false, false, false, false, false, false]) (st' := ⟨[(0, pT 0 0), (1, pT 0 6), (4, bB false), (12, aG [.sl 1]), (15, aG [ci a5, ci a6, ci a7, .bool a8])], [.box [.sl 1, .sl 2, ci a1, ci a2, ci a3, .bool a4, ci a5, ci a6, ci a7, .bool a8, .sl 3, .sl 4], .row tyIII a9, .row tyI a10, .row tyI a11, .row tyI a12]⟩) ?_ (fun A6 => ?_)
 ·
  refine WA.xf [7, 12, 13] (by simp) (allW3 ?_ ?_ ?_) ?_
  ·
   refine WO.uC true [] [.cells 0 0 1, .cells 0 6 4] (S_impl_LinkTurn k a9 a5 a6 a7 a8 r2 h3) rfl ?_ ?_
   exact WA.to 4 [] [] [0, 1, 2, 3, 4, 5] [0, 1, 4, 17, 18, 19] A7 trivial (by kernel_rfl)
   all_goals kernel_rfl
  ·
   refine WO.uM [] [] trivial ?_ ?_
   exact WA.to 0 [] [] [0, 1, 2, 3, 4, 5] [0, 1, 4, 5, 12, 15] A8 trivial (by kernel_rfl)
   all_goals kernel_rfl
  ·
   refine WO.uM [] [] trivial ?_ ?_
   exact WA.to 0 [] [] [0, 1, 2, 3, 4, 5] [0, 1, 4, 6, 12, 15] A9 trivial (by kernel_rfl)
   all_goals kernel_rfl
  kernel_rfl
 exact WA.to 7 [] [] [0, 1, 2, 3, 4] [0, 1, 4, 12, 15] A6 trivial (by kernel_rfl)
 all_goals kernel_rfl
theorem S_impl_Link_end_4187 (k : Nat) (a1 : Int) (a2 : Int) (a3 : Int) (a4 : Bool) (a5 : (List (Int × (Int × Int)))) (r : Int × (List (Int × (Int × Int)))) (hF : F_impl_Link_end_4187 k a1 a2 a3 a4 a5 = some r) : Spec Tryz.prog 131 [pT 0 0, pT 1 0] [.box [ci a1, ci a2, ci a3, .bool a4], .box [.sl 2], .row tyIII a5] (iI r.1) [.box [ci a1, ci a2, ci a3, .bool a4], .box [.sl 3], .dead, .row tyIII r.2] := by
 refine Spec.of 3 12 Tryz.func131 rfl rfl (Nat.le_of_ble_eq_true rfl) rfl fun w0 S0 Z0 M0 R0 hE => ?_
 unfold F_impl_Link_end_4187 at hF
 refine .seq ?_
 refine .xW [] none ⟨[(4, iI 0), (0, pT 0 0), (1, pT 1 0)], [.box [ci a1, ci a2, ci a3, .bool a4], .box [.sl 2], .row tyIII a5]⟩ [] trivial ?_ ?_
 refine .seq ?_
 refine .uB [0] [1, 2] [] [] rfl trivial ?_ ?_
 obtain ⟨r1, h4, hF⟩ := bindE hF
 refine .uC false [.whole 1, .whole 2] (S_impl_Pool_name_3ca5 k 8 a5 r1 h4) rfl ?_ ?_
 refine .xE [] (some ([0, 1, 2, 3], [0, 1, 4, 5])) ⟨[(0, pT 0 0), (1, pT 1 0), (4, iI 0), (5, iI r1.1)], [.box [ci a1, ci a2, ci a3, .bool a4], .box [.sl 3], .dead, .row tyIII r1.2]⟩ [] trivial ?_ ?_
 refine .seq ?_
 refine .uB [0, 1, 2] [3, 4] [] [] rfl trivial ?_ ?_
 obtain ⟨r2, h3, hF⟩ := bindE hF
 refine .uC false [.whole 0, .whole 1, .whole 3] (S_impl_Link_seal_659e k r1.1 a1 a2 a3 a4 r1.2 r2 h3) rfl ?_ ?_
 refine .vE [] (some ([0, 1, 2, 4], [4])) [] trivial ?_ ?_
 cases hF
 exact .xR hE [] [0, 1, 2, 3] (by kernel_rfl)
 all_goals kernel_rfl
theorem S_impl_LinkEnd (k : Nat) (a1 : (List (Int × (Int × Int)))) (a2 : Int) (a3 : Int) (a4 : Int) (a5 : Bool) (r : Bool × Int × (List (Int × (Int × Int)))) (hF : F_impl_LinkEnd k a1 a2 a3 a4 a5 = some r) : Spec Tryz.prog 101 [aG [.vw none tyIII a1], aG [ci a2, ci a3, ci a4, .bool a5]] [] (.tup [.agg [.sl 0], .agg [ci a2, ci a3, ci a4, .bool r.1], .c (ci r.2.1)]) [.row tyIII r.2.2] := by
 refine Spec.of 0 37 Tryz.func101 rfl rfl (Nat.le_of_ble_eq_true rfl) rfl fun w0 S0 Z0 M0 R0 hE => ?_
 unfold F_impl_LinkEnd at hF
 refine .seq ?_
 refine .xW [] (some ([0, 1, 2, 3], [2, 3, 4, 5, 6])) ⟨[(2, pT 0 0), (3, pT 1 0), (4, pT 2 0), (5, pT 3 0), (6, iI 0)], [.box [.vw none tyIII a1], .box [ci a2, ci a3, ci a4, .bool a5], .box [.nilsl], .box [ci 0, ci 0, ci 0, .bool false]]⟩ [] trivial ?_ ?_
 refine .seq ?_
 refine .seq ?_
 refine WT.join (f := fun v3 => F_impl_LinkEnd_J1 k a1 a2 a3 a4 a5 v3) (r := r) (S := fun v3 => ⟨[(2, pT 0 0), (3, pT 1 0), (4, pT 2 0), (5, pT 3 0), (6, iI 0), (21, bB v3)], [.box [.vw none tyIII a1], .box [ci a2, ci a3, ci a4, .bool a5], .box [.nilsl], .box [ci 0, ci 0, ci 0, .bool false]]⟩) (fun v3 hF => ?_) (fun hJJ1 => ?_)
 ·
  unfold F_impl_LinkEnd_J1 at hF
  rcases condE hF with ⟨he, hF⟩ | ⟨he, hF⟩
  ·
   refine .xT he ?_ ?_
   refine .seq ?_
   obtain ⟨r6, h7, hF⟩ := bindE hF
   refine WA.xs [.cells 0 0 1, .cells 1 0 4] [.cells 2 0 1, .cells 3 0 4] ?_ ?_
   refine WA.lem (pr' := [.cells 0 0 1, .cells 1 0 4]) (fuel' := 0) (listed' := #[true, true, true, true, true, true]) (st' := ⟨[(2, pT 0 0), (3, pT 1 0), (4, pT 2 0), (5, pT 3 0), (6, iI (-1))], [.box [.vw none tyIII a1], .box [ci a2, ci a3, ci a4, .bool a5], .box [.sl 4], .box [ci a2, ci a3, ci a4, .bool a5], .row tyIII r6]⟩) ?_ (fun A16 => ?_)
   ·
    refine WA.xD none ⟨[(2, pT 0 0), (3, pT 1 0), (4, pT 2 0), (5, pT 3 0), (6, iI (-1))], [.box [.vw none tyIII a1], .box [ci a2, ci a3, ci a4, .bool a5], .box [.sl 4], .box [ci a2, ci a3, ci a4, .bool a5], .row tyIII r6]⟩ ?_ ?_
    cases hF
    exact .xR hE [] [4] (by kernel_rfl)
    all_goals kernel_rfl
   refine WA.lem (pr' := [.cells 0 0 1, .cells 1 0 4]) (fuel' := 4) (listed' := #[true, false, true, false, false, false]) (st' := ⟨[(2, pT 0 0), (3, pT 1 0), (4, pT 2 0), (5, pT 3 0), (6, iI 0), (22, aG [.vw none tyIII a1]), (24, aG [ci a2, ci a3, ci a4, .bool a5])], [.box [.vw none tyIII a1], .box [ci a2, ci a3, ci a4, .bool a5], .box [.nilsl], .box [ci 0, ci 0, ci 0, .bool false]]⟩) ?_ (fun A15 => ?_)
   ·
    refine WA.x1 1 (WO.uC false [] [.cells 0 0 1, .cells 1 0 4] (S_impl_orEmpty k a1 r6 h7) rfl ?_ ?_) ?_
    exact WA.to 3 [] [] [0, 1, 2, 3, 4] [2, 3, 4, 5, 6] A16 trivial (by kernel_rfl)
    all_goals kernel_rfl
   exact WA.to 2 [] [] [0, 1, 2, 3] [2, 3, 4, 5, 6, 22, 24] A15 trivial (by kernel_rfl)
   all_goals kernel_rfl
  ·
   refine .xF he ?_ ?_
   refine .skip ?_
   refine .seq ?_
   refine .uB [0] [1, 2, 3] [] [] rfl trivial ?_ ?_
   obtain ⟨r8, h21, hF⟩ := bindE hF
   refine .uC false [] (S_impl_copyPool k a1 r8 h21) rfl ?_ ?_
   refine .xE [] (some ([0, 1, 2, 3, 5, 4], [2, 3, 4, 5, 6, 7])) ⟨[(2, pT 0 0), (3, pT 1 0), (4, pT 2 0), (5, pT 3 0), (6, iI 0), (7, pT 4 0)], [.box [.vw none tyIII a1], .box [ci a2, ci a3, ci a4, .bool a5], .box [.nilsl], .box [ci 0, ci 0, ci 0, .bool false], .box [.sl 5], .row tyIII r8]⟩ [] trivial ?_ ?_
   refine .seq ?_
   refine .uB [] [0, 1] [] [] rfl trivial ?_ ?_
   obtain ⟨r9, h20, hF⟩ := bindE hF
   refine .uC false [.whole 1, .whole 4, .whole 5] (S_impl_Link_end_4187 k a2 a3 a4 a5 r8 r9 h20) rfl ?_ ?_
   refine .vE [] (some ([0, 1, 2, 3, 4, 6], [2, 3, 4, 5, 6, 7, 8])) [] trivial ?_ ?_
   refine .seq ?_
   refine .seq ?_
   refine .xW [] (some ([0, 1, 2, 3, 4, 5], [2, 3, 4, 5, 6, 7, 8, 29])) ⟨[(2, pT 0 0), (3, pT 1 0), (4, pT 2 0), (5, pT 3 0), (6, iI 0), (7, pT 4 0), (8, iI r9.1), (29, bB (decide (r9.1 < 0)))], [.box [.vw none tyIII a1], .box [ci a2, ci a3, ci a4, .bool a5], .box [.nilsl], .box [ci 0, ci 0, ci 0, .bool false], .box [.sl 5], .row tyIII r9.2]⟩ [] trivial ?_ ?_
   rcases condE hF with ⟨he, hF⟩ | ⟨he, hF⟩
   ·
    refine .xT he ?_ ?_
    refine .seq ?_
    obtain ⟨r12, h13, hF⟩ := bindE hF
    refine WA.xs [.cells 0 0 1, .cells 1 0 4] [.cells 2 0 1, .cells 3 0 4] ?_ ?_
    refine WA.lem (pr' := [.cells 0 0 1, .cells 1 0 4]) (fuel' := 0) (listed' := #[true, true, true, true, true, true]) (st' := ⟨[(3, pT 1 0), (4, pT 2 0), (5, pT 3 0), (6, iI (-1)), (7, pT 4 0), (8, iI r9.1)], [.box [.vw none tyIII a1], .box [ci a2, ci a3, ci a4, .bool a5], .box [.sl 6], .box [ci a2, ci a3, ci a4, .bool a5], .box [.sl 5], .row tyIII r9.2, .row tyIII r12]⟩) ?_ (fun A18 => ?_)
    ·
     refine WA.xD (some ([1, 2, 3, 4, 6, 5], [3, 4, 5, 6, 7, 8])) ⟨[(3, pT 0 0), (4, pT 1 0), (5, pT 2 0), (6, iI (-1)), (7, pT 3 0), (8, iI r9.1)], [.box [ci a2, ci a3, ci a4, .bool a5], .box [.sl 4], .box [ci a2, ci a3, ci a4, .bool a5], .box [.sl 5], .row tyIII r12, .row tyIII r9.2]⟩ ?_ ?_
     cases hF
     exact .xR hE [] [4] (by kernel_rfl)
     all_goals kernel_rfl
    refine WA.lem (pr' := [.cells 0 0 1, .cells 1 0 4]) (fuel' := 4) (listed' := #[true, false, true, false, false, false]) (st' := ⟨[(3, pT 1 0), (4, pT 2 0), (5, pT 3 0), (6, iI 0), (7, pT 4 0), (8, iI r9.1), (30, aG [.vw none tyIII a1]), (32, aG [ci a2, ci a3, ci a4, .bool a5])], [.box [.vw none tyIII a1], .box [ci a2, ci a3, ci a4, .bool a5], .box [.nilsl], .box [ci 0, ci 0, ci 0, .bool false], .box [.sl 5], .row tyIII r9.2]⟩) ?_ (fun A17 => ?_)
    ·
     refine WA.x1 1 (WO.uC false [] [.cells 0 0 1, .cells 1 0 4] (S_impl_copyPool k a1 r12 h13) rfl ?_ ?_) ?_
     exact WA.to 3 [] [] [0, 1, 2, 3, 4, 5, 6] [3, 4, 5, 6, 7, 8] A18 trivial (by kernel_rfl)
     all_goals kernel_rfl
    exact WA.to 2 [] [] [0, 1, 2, 3, 4, 5] [3, 4, 5, 6, 7, 8, 30, 32] A17 trivial (by kernel_rfl)
    all_goals kernel_rfl
   ·
    refine .xF he ?_ ?_
    refine .skip ?_
    refine .seq ?_
    refine .xW [] (some ([1, 2, 3, 4, 5], [3, 4, 5, 6, 7, 8])) ⟨[(3, pT 0 0), (4, pT 1 0), (5, pT 2 0), (6, iI 0), (7, pT 3 0), (8, iI r9.1)], [.box [ci a2, ci a3, ci a4, .bool true], .box [.nilsl], .box [ci 0, ci 0, ci 0, .bool false], .box [.sl 4], .row tyIII r9.2]⟩ [] trivial ?_ ?_
    refine .seq ?_
    refine WA.xs [.cells 0 0 4, .cells 3 0 1] [.cells 1 0 1, .cells 2 0 4] ?_ ?_
    refine WA.fin 6 [] [] (some ([1, 2, 4], [4, 5, 6])) ⟨[(4, pT 0 0), (5, pT 1 0), (6, iI r9.1)], [.box [.sl 2], .box [ci a2, ci a3, ci a4, .bool true], .row tyIII r9.2]⟩ trivial ?_ ?_
    cases hF
    exact .xR hE [] [2] (by kernel_rfl)
    all_goals kernel_rfl
   all_goals kernel_rfl
  all_goals kernel_rfl
 ·
  refine .uB [0, 1, 2] [3, 4, 5, 6, 7, 8, 9, 10, 11, 12] [] [] rfl trivial ?_ ?_
  rcases condE hF with ⟨he, hF⟩ | ⟨he, hF⟩
  ·
   refine WT.putB [11, 10] he ?_ ?_
   refine .vE [] (some ([0, 1, 2, 3], [2, 3, 4, 5, 6, 21])) [] trivial ?_ ?_
   exact .xS [.pick [0, 1, 2, 3] [2, 3, 4, 5, 6, 21]] (hJJ1 (true) hF) (by kernel_rfl)
   all_goals kernel_rfl
  ·
   refine WT.putB [11, 10] he ?_ ?_
   refine .uN [3, 4, 5, 6, 7] [8, 9, 10, 11, 12] [] [] rfl trivial ?_ ?_
   rcases condE hF with ⟨he, hF⟩ | ⟨he, hF⟩
   ·
    refine WT.putB [16, 15, 14] he ?_ ?_
    refine .vE [] (some ([0, 1, 2, 3], [2, 3, 4, 5, 6, 21])) [] trivial ?_ ?_
    exact .xS [.pick [0, 1, 2, 3] [2, 3, 4, 5, 6, 21]] (hJJ1 (true) hF) (by kernel_rfl)
    all_goals kernel_rfl
   ·
    refine WT.putB [16, 15, 14] he ?_ ?_
    refine .uN [8, 9] [10, 11, 12] [] [] rfl trivial ?_ ?_
    obtain ⟨r2, h22, hF⟩ := bindE hF
    refine .uC false [] (S_impl_LinkOk k a1 a2 a3 a4 a5 r2 h22) rfl ?_ ?_
    refine .vE [] (some ([0, 1, 2, 3], [2, 3, 4, 5, 6, 21])) [] trivial ?_ ?_
    exact .xS [.pick [0, 1, 2, 3] [2, 3, 4, 5, 6, 21]] (hJJ1 (!r2) hF) (by kernel_rfl)
    all_goals kernel_rfl
   all_goals kernel_rfl
  all_goals kernel_rfl
 all_goals kernel_rfl
theorem S_impl_Stream_end_4594 (k : Nat) (a1 : Int) (a2 : Int) (a3 : Int) (a4 : Bool) (a5 : Int) (a6 : Int) (a7 : Int) (a8 : Bool) (a9 : (List (Int × (Int × Int)))) (a10 : (List Int)) (a11 : (List Int)) (a12 : (List Int)) (r : Bool × Bool × (List (Int × (Int × Int))) × (List Int)) (hF : F_impl_Stream_end_4594 k a1 a2 a3 a4 a5 a6 a7 a8 a9 a10 a11 a12 = some r) : Spec Tryz.prog 71 [pT 0 0] [.box [.sl 1, .sl 2, ci a1, ci a2, ci a3, .bool a4, ci a5, ci a6, ci a7, .bool a8, .sl 3, .sl 4], .row tyIII a9, .row tyI a10, .row tyI a11, .row tyI a12] (bB r.1) [.box [.sl 5, .sl 6, ci a1, ci a2, ci a3, .bool r.2.1, ci a5, ci a6, ci a7, .bool a8, .sl 3, .sl 4], .row tyIII a9, .dead, .row tyI a11, .row tyI a12, .row tyIII r.2.2.1, .row tyI r.2.2.2] := by
 refine Spec.of 5 30 Tryz.func71 rfl rfl (Nat.le_of_ble_eq_true rfl) rfl fun w0 S0 Z0 M0 R0 hE => ?_
 unfold F_impl_Stream_end_4594 at hF
 refine .seq ?_
 refine .xW [] none ⟨[(2, bB false), (0, pT 0 0)], [.box [.sl 1, .sl 2, ci a1, ci a2, ci a3, .bool a4, ci a5, ci a6, ci a7, .bool a8, .sl 3, .sl 4], .row tyIII a9, .row tyI a10, .row tyI a11, .row tyI a12]⟩ [] trivial ?_ ?_
 refine .seq ?_
 obtain ⟨r2, h3, hF⟩ := bindE hF
 refine WA.xs [.cells 0 0 1, .cells 0 2 4] [] ?_ ?_
 refine WA.lem (pr' := [.cells 0 0 1, .cells 0 2 4]) (fuel' := 0) (listed' := #[true, true, true, true, true, true, true, true, true, true, true, true, true, true, true, true, true, true]) (st' := ⟨[(0, pT 0 0), (2, bB false), (3, pT 5 0), (4, pT 6 0), (5, iI r2.2.1), (6, .tup [.agg [.sl 7], .agg [ci a1, ci a2, ci a3, .bool r2.1], .c (ci r2.2.1)])], [.box [.sl 1, .sl 2, ci a1, ci a2, ci a3, .bool a4, ci a5, ci a6, ci a7, .bool a8, .sl 3, .sl 4], .row tyIII a9, .row tyI a10, .row tyI a11, .row tyI a12, .box [.sl 7], .box [ci a1, ci a2, ci a3, .bool r2.1], .row tyIII r2.2.2]⟩) ?_ (fun A12 => ?_)
 ·
  refine WA.xD none ⟨[(0, pT 0 0), (2, bB false), (3, pT 5 0), (4, pT 6 0), (5, iI r2.2.1), (6, .tup [.agg [.sl 7], .agg [ci a1, ci a2, ci a3, .bool r2.1], .c (ci r2.2.1)])], [.box [.sl 1, .sl 2, ci a1, ci a2, ci a3, .bool a4, ci a5, ci a6, ci a7, .bool a8, .sl 3, .sl 4], .row tyIII a9, .row tyI a10, .row tyI a11, .row tyI a12, .box [.sl 7], .box [ci a1, ci a2, ci a3, .bool r2.1], .row tyIII r2.2.2]⟩ ?_ ?_
  refine .seq ?_
  refine WA.xs [.cells 5 0 1, .cells 6 0 4] [.cells 0 0 1, .cells 0 2 4] ?_ ?_
  refine WA.fin 10 [] [] (some ([0, 1, 2, 3, 4, 7], [0, 2, 5])) ⟨[(0, pT 0 0), (2, bB false), (5, iI r2.2.1)], [.box [.sl 5, .sl 2, ci a1, ci a2, ci a3, .bool r2.1, ci a5, ci a6, ci a7, .bool a8, .sl 3, .sl 4], .row tyIII a9, .row tyI a10, .row tyI a11, .row tyI a12, .row tyIII r2.2.2]⟩ trivial ?_ ?_
  refine .seq ?_
  refine .uB [0, 1] [2, 3] [] [] rfl trivial ?_ ?_
  obtain ⟨r5, h6, hF⟩ := bindE hF
  refine .uC false [.whole 0, .whole 5, .whole 2, .whole 3, .whole 4] (S_impl_Stream_heard_65c4 k r2.2.1 a1 a2 a3 r2.1 a5 a6 a7 a8 r2.2.2 a10 a11 a12 r5 h6) rfl ?_ ?_
  refine .vE [] (some ([0, 1, 2, 3, 4, 5, 6], [2])) [] trivial ?_ ?_
  cases hF
  exact .xR hE [] [0, 1, 2, 3, 4, 5, 6] (by kernel_rfl)
  all_goals kernel_rfl
 refine WA.lem (pr' := [.cells 0 0 1, .cells 0 2 4]) (fuel' := 5) (listed' := #[true, true, true, true, true, true, true, true, true, true, true, true, true, false, false, false, false, false]) (st' := ⟨[(0, pT 0 0), (2, bB false), (6, .tup [.agg [.sl 5], .agg [ci a1, ci a2, ci a3, .bool r2.1], .c (ci r2.2.1)]), (16, aG [.sl 5]), (17, aG [ci a1, ci a2, ci a3, .bool r2.1]), (18, iI r2.2.1)], [.box [.sl 1, .sl 2, ci a1, ci a2, ci a3, .bool a4, ci a5, ci a6, ci a7, .bool a8, .sl 3, .sl 4], .row tyIII a9, .row tyI a10, .row tyI a11, .row tyI a12, .row tyIII r2.2.2]⟩) ?_ (fun A9 => ?_)
 ·
  refine WA.xf [13, 14] (by simp) (allW2 ?_ ?_) ?_
  ·
   refine WO.uM [] [] trivial ?_ ?_
   exact WA.to 4 [] [] [0, 1, 2, 3, 4, 6, 7, 5] [0, 2, 3, 4, 5, 6] A12 trivial (by kernel_rfl)
   all_goals kernel_rfl
  ·
   refine WO.uM [] [] trivial ?_ ?_
   exact WA.to 4 [] [] [0, 1, 2, 3, 4, 7, 6, 5] [0, 2, 3, 4, 5, 6] A12 trivial (by kernel_rfl)
   all_goals kernel_rfl
  kernel_rfl
 refine WA.lem (pr' := [.cells 0 0 1, .cells 0 2 4]) (fuel' := 8) (listed' := #[true, true, true, true, true, true, true, true, false, false, false, false, false, true, true, false, false, false]) (st' := ⟨[(0, pT 0 0), (2, bB false), (3, pT 5 0), (4, pT 6 0), (10, aG [.sl 1]), (14, aG [ci a1, ci a2, ci a3, .bool a4])], [.box [.sl 1, .sl 2, ci a1, ci a2, ci a3, .bool a4, ci a5, ci a6, ci a7, .bool a8, .sl 3, .sl 4], .row tyIII a9, .row tyI a10, .row tyI a11, .row tyI a12, .box [.nilsl], .box [ci 0, ci 0, ci 0, .bool false]]⟩) ?_ (fun A13 => ?_)
 ·
  refine WA.x1 8 (WO.uC true [] [.cells 0 0 1, .cells 0 2 4] (S_impl_LinkEnd k a9 a1 a2 a3 a4 r2 h3) rfl ?_ ?_) ?_
  exact WA.to 7 [] [] [0, 1, 2, 3, 4, 5, 6, 7] [0, 2, 3, 4, 5, 6] A12 trivial (by kernel_rfl)
  all_goals kernel_rfl
 refine WA.lem (pr' := [.cells 0 0 1, .cells 0 2 4]) (fuel' := 9) (listed' := #[true, true, true, true, true, true, true, true, false, false, false, false, false, true, false, false, false, false]) (st' := ⟨[(0, pT 0 0), (2, bB false), (3, pT 5 0), (10, aG [.sl 1]), (14, aG [ci a1, ci a2, ci a3, .bool a4])], [.box [.sl 1, .sl 2, ci a1, ci a2, ci a3, .bool a4, ci a5, ci a6, ci a7, .bool a8, .sl 3, .sl 4], .row tyIII a9, .row tyI a10, .row tyI a11, .row tyI a12, .box [.nilsl]]⟩) ?_ (fun A10 => ?_)
 ·
  refine WA.xf [8, 14] (by simp) (allW2 ?_ ?_) ?_
  ·
   refine WO.uC true [] [.cells 0 0 1, .cells 0 2 4] (S_impl_LinkEnd k a9 a1 a2 a3 a4 r2 h3) rfl ?_ ?_
   exact WA.to 8 [] [] [0, 1, 2, 3, 4, 5, 7, 6] [0, 2, 3, 4, 5, 6] A12 trivial (by kernel_rfl)
   all_goals kernel_rfl
  ·
   refine WO.uM [] [] trivial ?_ ?_
   exact WA.to 0 [] [] [0, 1, 2, 3, 4, 5, 6] [0, 2, 3, 4, 10, 14] A13 trivial (by kernel_rfl)
   all_goals kernel_rfl
  kernel_rfl
 refine WA.lem (pr' := [.cells 0 0 1, .cells 0 2 4]) (fuel' := 9) (listed' := #[true, true, true, true, true, true, true, true, false, false, false, false, false, false, true, false, false, false]) (st' := ⟨[(0, pT 0 0), (2, bB false), (4, pT 5 0), (10, aG [.sl 1]), (14, aG [ci a1, ci a2, ci a3, .bool a4])], [.box [.sl 1, .sl 2, ci a1, ci a2, ci a3, .bool a4, ci a5, ci a6, ci a7, .bool a8, .sl 3, .sl 4], .row tyIII a9, .row tyI a10, .row tyI a11, .row tyI a12, .box [ci 0, ci 0, ci 0, .bool false]]⟩) ?_ (fun A11 => ?_)
 ·
  refine WA.xf [8, 13] (by simp) (allW2 ?_ ?_) ?_
  ·
   refine WO.uC true [] [.cells 0 0 1, .cells 0 2 4] (S_impl_LinkEnd k a9 a1 a2 a3 a4 r2 h3) rfl ?_ ?_
   exact WA.to 8 [] [] [0, 1, 2, 3, 4, 7, 5, 6] [0, 2, 3, 4, 5, 6] A12 trivial (by kernel_rfl)
   all_goals kernel_rfl
  ·
   refine WO.uM [] [] trivial ?_ ?_
   exact WA.to 0 [] [] [0, 1, 2, 3, 4, 6, 5] [0, 2, 3, 4, 10, 14] A13 trivial (by kernel_rfl)
   all_goals kernel_rfl
  kernel_rfl
 refine WA.lem (pr' := [.cells 0 0 1, .cells 0 2 4]) (fuel' := 10) (listed' := #[true, true, true, true, true, true, true, true, false, false, false, false, false, false, false, false, false, false]) (st' := ⟨[(0, pT 0 0), (2, bB false), (10, aG [.sl 1]), (14, aG [ci a1, ci a2, ci a3, .bool a4])], [.box [.sl 1, .sl 2, ci a1, ci a2, ci a3, .bool a4, ci a5, ci a6, ci a7, .bool a8, .sl 3, .sl 4], .row tyIII a9, .row tyI a10, .row tyI a11, .row tyI a12]⟩) ?_ (fun A8 => ?_)
 ·
  refine WA.xf [8, 13, 14] (by simp) (allW3 ?_ ?_ ?_) ?_
  ·
   refine WO.uC true [] [.cells 0 0 1, .cells 0 2 4] (S_impl_LinkEnd k a9 a1 a2 a3 a4 r2 h3) rfl ?_ ?_
   exact WA.to 4 [] [] [0, 1, 2, 3, 4, 5] [0, 2, 6, 16, 17, 18] A9 trivial (by kernel_rfl)
   all_goals kernel_rfl
  ·
   refine WO.uM [] [] trivial ?_ ?_
   exact WA.to 0 [] [] [0, 1, 2, 3, 4, 5] [0, 2, 3, 10, 14] A10 trivial (by kernel_rfl)
   all_goals kernel_rfl
  ·
   refine WO.uM [] [] trivial ?_ ?_
   exact WA.to 0 [] [] [0, 1, 2, 3, 4, 5] [0, 2, 4, 10, 14] A11 trivial (by kernel_rfl)
   all_goals kernel_rfl
  kernel_rfl
 exact WA.to 8 [] [] [0, 1, 2, 3, 4] [0, 2, 10, 14] A8 trivial (by kernel_rfl)
 all_goals kernel_rfl
theorem S_impl_Stream_do_e590 (k : Nat) (a1 : Int) (a2 : Int) (a3 : ByteArray) (a4 : Int) (a5 : Int) (a6 : Int) (a7 : Bool) (a8 : Int) (a9 : Int) (a10 : Int) (a11 : Bool) (a12 : (List (Int × (Int × Int)))) (a13 : (List Int)) (a14 : (List Int)) (a15 : (List Int)) (r : Bool × Int × Int × Int × Bool × Int × Int × Int × Bool × (List (Int × (Int × Int))) × (List Int) × (List Int) × (List Int)) (hF : F_impl_Stream_do_e590 k a1 a2 a3 a4 a5 a6 a7 a8 a9 a10 a11 a12 a13 a14 a15 = some r) : Spec Tryz.prog 33 [pT 0 0, aG [ci a1, ci a2, .str a3]] [.box [.sl 1, .sl 2, ci a4, ci a5, ci a6, .bool a7, ci a8, ci a9, ci a10, .bool a11, .sl 3, .sl 4], .row tyIII a12, .row tyI a13, .row tyI a14, .row tyI a15] (bB r.1) [.box [.sl 5, .sl 6, ci r.2.1, ci r.2.2.1, ci r.2.2.2.1, .bool r.2.2.2.2.1, ci r.2.2.2.2.2.1, ci r.2.2.2.2.2.2.1, ci r.2.2.2.2.2.2.2.1, .bool r.2.2.2.2.2.2.2.2.1, .sl 7, .sl 8], .dead, .dead, .dead, .dead, .row tyIII r.2.2.2.2.2.2.2.2.2.1, .row tyI r.2.2.2.2.2.2.2.2.2.2.1, .row tyI r.2.2.2.2.2.2.2.2.2.2.2.1, .row tyI r.2.2.2.2.2.2.2.2.2.2.2.2] := by
 refine Spec.of 5 60 Tryz.func33 rfl rfl (Nat.le_of_ble_eq_true rfl) rfl fun w0 S0 Z0 M0 R0 hE => ?_
 unfold F_impl_Stream_do_e590 at hF
 refine .seq ?_
 refine .xW [] (some ([0, 1, 2, 3, 4, 5], [0, 3, 4])) ⟨[(0, pT 0 0), (3, pT 5 0), (4, bB false)], [.box [.sl 1, .sl 2, ci a4, ci a5, ci a6, .bool a7, ci a8, ci a9, ci a10, .bool a11, .sl 3, .sl 4], .row tyIII a12, .row tyI a13, .row tyI a14, .row tyI a15, .box [ci a1, ci a2, .str a3]]⟩ [] trivial ?_ ?_
 refine .seq ?_
 refine .block ?_
 refine .seq ?_
 refine WT.join (f := fun v3 => F_impl_Stream_do_e590_J2 k a1 a2 a3 a4 a5 a6 a7 a8 a9 a10 a11 a12 a13 a14 a15 v3) (r := r) (S := fun v3 => ⟨[(0, pT 0 0), (3, pT 5 0), (4, bB false), (5, bB v3)], [.box [.sl 1, .sl 2, ci a4, ci a5, ci a6, .bool a7, ci a8, ci a9, ci a10, .bool a11, .sl 3, .sl 4], .row tyIII a12, .row tyI a13, .row tyI a14, .row tyI a15, .box [ci a1, ci a2, .str a3]]⟩) (fun v3 hF => ?_) (fun hJJ2 => ?_)
 ·
  unfold F_impl_Stream_do_e590_J2 at hF
  rcases condE hF with ⟨he, hF⟩ | ⟨he, hF⟩
  ·
   refine .xT he ?_ ?_
   refine .seq ?_
   refine .uB [0, 1, 2] [3, 4] [] [] rfl trivial ?_ ?_
   obtain ⟨r5, h20, hF⟩ := bindE hF
   refine .uC false [.whole 0, .whole 1, .whole 2, .whole 3, .whole 4] (S_impl_Stream_send_65c4 k a2 a4 a5 a6 a7 a8 a9 a10 a11 a12 a13 a14 a15 r5 h20) rfl ?_ ?_
   refine .vE [] (some ([0, 1, 2, 3, 4, 5, 6, 7, 8], [0, 3, 4, 5])) [] trivial ?_ ?_
   cases hF
   exact .xR hE [.mv 4, .mv 1] [0, 1, 2, 3, 4, 6, 7, 8, 9] (by kernel_rfl)
   all_goals kernel_rfl
  ·
   refine .xF he ?_ ?_
   refine .seq ?_
   refine WT.join (f := fun v7 => F_impl_Stream_do_e590_J6 k a1 a2 a3 a4 a5 a6 a7 a8 a9 a10 a11 a12 a13 a14 a15 v7) (r := r) (S := fun v7 => ⟨[(0, pT 0 0), (3, pT 5 0), (4, bB false), (5, bB v3), (18, bB v7)], [.box [.sl 1, .sl 2, ci a4, ci a5, ci a6, .bool a7, ci a8, ci a9, ci a10, .bool a11, .sl 3, .sl 4], .row tyIII a12, .row tyI a13, .row tyI a14, .row tyI a15, .box [ci a1, ci a2, .str a3]]⟩) (fun v7 hF => ?_) (fun hJJ6 => ?_)
   ·
    unfold F_impl_Stream_do_e590_J6 at hF
    rcases condE hF with ⟨he, hF⟩ | ⟨he, hF⟩
    ·
     refine .xT he ?_ ?_
     refine .seq ?_
     refine .uB [0, 1, 2] [3, 4] [] [] rfl trivial ?_ ?_
     obtain ⟨r9, h21, hF⟩ := bindE hF
     refine .uC false [.whole 0, .whole 1, .whole 2, .whole 3, .whole 4] (S_impl_Stream_take_b76b k a3 a4 a5 a6 a7 a8 a9 a10 a11 a12 a13 a14 a15 r9 h21) rfl ?_ ?_
     refine .vE [] (some ([0, 1, 2, 3, 4, 5, 6, 7], [0, 3, 4, 5])) [] trivial ?_ ?_
     cases hF
     exact .xR hE [.mv 2, .mv 3] [0, 1, 2, 3, 4, 6, 8, 9, 7] (by kernel_rfl)
     all_goals kernel_rfl
    ·
     refine .xF he ?_ ?_
     refine .seq ?_
     refine WT.join (f := fun v11 => F_impl_Stream_do_e590_J10 k a1 a4 a5 a6 a7 a8 a9 a10 a11 a12 a13 a14 a15 v11) (r := r) (S := fun v11 => ⟨[(0, pT 0 0), (3, pT 5 0), (4, bB false), (5, bB v3), (31, bB v11)], [.box [.sl 1, .sl 2, ci a4, ci a5, ci a6, .bool a7, ci a8, ci a9, ci a10, .bool a11, .sl 3, .sl 4], .row tyIII a12, .row tyI a13, .row tyI a14, .row tyI a15, .box [ci a1, ci a2, .str a3]]⟩) (fun v11 hF => ?_) (fun hJJ10 => ?_)
     ·
      unfold F_impl_Stream_do_e590_J10 at hF
      rcases condE hF with ⟨he, hF⟩ | ⟨he, hF⟩
      ·
       refine .xT he ?_ ?_
       refine .seq ?_
       refine .vW [] (some ([0, 1, 2, 3, 4, 5], [0, 3, 4, 5])) [] trivial ?_ ?_
       cases hF
       exact .xR hE [.mv 1, .mv 2, .mv 3, .mv 4] [0, 1, 2, 3, 4, 6, 7, 8, 9] (by kernel_rfl)
       all_goals kernel_rfl
      ·
       refine .xF he ?_ ?_
       refine .skip ?_
       refine .inBlock ?_
       refine .seq ?_
       refine .seq ?_
       refine .vW [] (some ([0, 1, 2, 3, 4], [0, 4, 41])) [] trivial ?_ ?_
       refine .block ?_
       refine .seq ?_
       refine .xW [] (some ([0, 1, 2, 3, 4], [0, 4, 41, 42])) ⟨[(0, pT 0 0), (4, bB false), (41, iI a1), (42, bB (a1 == 2))], [.box [.sl 1, .sl 2, ci a4, ci a5, ci a6, .bool a7, ci a8, ci a9, ci a10, .bool a11, .sl 3, .sl 4], .row tyIII a12, .row tyI a13, .row tyI a14, .row tyI a15]⟩ [] trivial ?_ ?_
       rcases condE hF with ⟨he, hF⟩ | ⟨he, hF⟩
       ·
        refine .xT he ?_ ?_
        refine .seq ?_
        refine .uB [0, 1, 2, 3] [4, 5] [] [] rfl trivial ?_ ?_
        obtain ⟨r15, h22, hF⟩ := bindE hF
        refine .uC false [.whole 0, .whole 1, .whole 2, .whole 3, .whole 4] (S_impl_Stream_turn_9350 k a4 a5 a6 a7 a8 a9 a10 a11 a12 a13 a14 a15 r15 h22) rfl ?_ ?_
        refine .vE [] (some ([0, 1, 2, 3, 4, 5], [4])) [] trivial ?_ ?_
        cases hF
        exact .xR hE [.mv 2, .mv 3, .mv 4, .mv 1] [0, 1, 2, 3, 4, 5, 6, 7, 8] (by kernel_rfl)
        all_goals kernel_rfl
       ·
        refine .xF he ?_ ?_
        refine .seq ?_
        refine .xW [] (some ([0, 1, 2, 3, 4], [0, 4, 41, 49])) ⟨[(0, pT 0 0), (4, bB false), (41, iI a1), (49, bB (a1 == 5))], [.box [.sl 1, .sl 2, ci a4, ci a5, ci a6, .bool a7, ci a8, ci a9, ci a10, .bool a11, .sl 3, .sl 4], .row tyIII a12, .row tyI a13, .row tyI a14, .row tyI a15]⟩ [] trivial ?_ ?_
        rcases condE hF with ⟨he, hF⟩ | ⟨he, hF⟩
        ·
         refine .xT he ?_ ?_
         refine .seq ?_
         refine .uB [0, 1, 2, 3] [4, 5] [] [] rfl trivial ?_ ?_
         obtain ⟨r17, h23, hF⟩ := bindE hF
         refine .uC false [.whole 0, .whole 1, .whole 2, .whole 3, .whole 4] (S_impl_Stream_turn_82d8 k a4 a5 a6 a7 a8 a9 a10 a11 a12 a13 a14 a15 r17 h23) rfl ?_ ?_
         refine .vE [] (some ([0, 1, 2, 3, 4, 5], [4])) [] trivial ?_ ?_
         cases hF
         exact .xR hE [.mv 2, .mv 3, .mv 4, .mv 1] [0, 1, 2, 3, 4, 5, 6, 7, 8] (by kernel_rfl)
         all_goals kernel_rfl
        ·
         refine .xF he ?_ ?_
         refine .seq ?_
         refine .xW [] (some ([0, 1, 2, 3, 4], [0, 4, 56])) ⟨[(0, pT 0 0), (4, bB false), (56, bB (a1 == 3))], [.box [.sl 1, .sl 2, ci a4, ci a5, ci a6, .bool a7, ci a8, ci a9, ci a10, .bool a11, .sl 3, .sl 4], .row tyIII a12, .row tyI a13, .row tyI a14, .row tyI a15]⟩ [] trivial ?_ ?_
         rcases condE hF with ⟨he, hF⟩ | ⟨he, hF⟩
         ·
          refine .xT he ?_ ?_
          refine .seq ?_
          refine .uB [0] [1, 2] [] [] rfl trivial ?_ ?_
          obtain ⟨r19, h24, hF⟩ := bindE hF
          refine .uC false [.whole 0, .whole 1, .whole 2, .whole 3, .whole 4] (S_impl_Stream_end_4594 k a4 a5 a6 a7 a8 a9 a10 a11 a12 a13 a14 a15 r19 h24) rfl ?_ ?_
          refine .vE [] (some ([0, 1, 2, 3, 4, 5, 6], [4])) [] trivial ?_ ?_
          cases hF
          exact .xR hE [.mv 3, .mv 4, .mv 1] [0, 1, 2, 3, 4, 5, 6, 7, 8] (by kernel_rfl)
          all_goals kernel_rfl
         ·
          refine .xF he ?_ ?_
          refine .skip ?_
          refine .inBlock ?_
          refine .seq ?_
          refine .vW [] (some ([0, 1, 2, 3, 4], [4])) [] trivial ?_ ?_
          cases hF
          exact .xR hE [.mv 1, .mv 2, .mv 3, .mv 4] [0, 1, 2, 3, 4, 5, 6, 7, 8] (by kernel_rfl)
          all_goals kernel_rfl
         all_goals kernel_rfl
        all_goals kernel_rfl
       all_goals kernel_rfl
      all_goals kernel_rfl
     ·
      refine .uB [0, 1, 2, 3] [4, 5, 6, 7, 8] [] [] rfl trivial ?_ ?_
      rcases condE hF with ⟨he, hF⟩ | ⟨he, hF⟩
      ·
       refine WT.putB [35, 34] he ?_ ?_
       refine .vE [] (some ([0, 1, 2, 3, 4, 5], [0, 3, 4, 5, 31])) [] trivial ?_ ?_
       exact .xS [.pick [0, 1, 2, 3, 4, 5] [0, 3, 4, 5, 31]] (hJJ10 (true) hF) (by kernel_rfl)
       all_goals kernel_rfl
      ·
       refine WT.putB [35, 34] he ?_ ?_
       refine .vE [] (some ([0, 1, 2, 3, 4, 5], [0, 3, 4, 5, 31])) [] trivial ?_ ?_
       exact .xS [.pick [0, 1, 2, 3, 4, 5] [0, 3, 4, 5, 31]] (hJJ10 (!(a3.toList == (⟨#[]⟩ : ByteArray).toList)) hF) (by kernel_rfl)
       all_goals kernel_rfl
      all_goals kernel_rfl
     all_goals kernel_rfl
    all_goals kernel_rfl
   ·
    refine .uB [0, 1, 2, 3] [4, 5, 6, 7, 8] [] [] rfl trivial ?_ ?_
    rcases condE hF with ⟨he, hF⟩ | ⟨he, hF⟩
    ·
     refine WT.putB [22, 21] he ?_ ?_
     refine .vE [] (some ([0, 1, 2, 3, 4, 5], [0, 3, 4, 5, 18])) [] trivial ?_ ?_
     exact .xS [.pick [0, 1, 2, 3, 4, 5] [0, 3, 4, 5, 18]] (hJJ6 (a2 == 0) hF) (by kernel_rfl)
     all_goals kernel_rfl
    ·
     refine WT.putB [22, 21] he ?_ ?_
     refine .vE [] (some ([0, 1, 2, 3, 4, 5], [0, 3, 4, 5, 18])) [] trivial ?_ ?_
     exact .xS [.pick [0, 1, 2, 3, 4, 5] [0, 3, 4, 5, 18]] (hJJ6 (false) hF) (by kernel_rfl)
     all_goals kernel_rfl
    all_goals kernel_rfl
   all_goals kernel_rfl
  all_goals kernel_rfl
 ·
  refine .uB [0, 1, 2, 3] [4, 5, 6, 7, 8] [] [] rfl trivial ?_ ?_
  rcases condE hF with ⟨he, hF⟩ | ⟨he, hF⟩
  ·
   refine WT.putB [9, 8] he ?_ ?_
   refine .vE [] (some ([0, 1, 2, 3, 4, 5], [0, 3, 4, 5])) [] trivial ?_ ?_
   exact .xS [.pick [0, 1, 2, 3, 4, 5] [0, 3, 4, 5]] (hJJ2 (a3.toList == (⟨#[]⟩ : ByteArray).toList) hF) (by kernel_rfl)
   all_goals kernel_rfl
  ·
   refine WT.putB [9, 8] he ?_ ?_
   refine .vE [] (some ([0, 1, 2, 3, 4, 5], [0, 3, 4, 5])) [] trivial ?_ ?_
   exact .xS [.pick [0, 1, 2, 3, 4, 5] [0, 3, 4, 5]] (hJJ2 (false) hF) (by kernel_rfl)
   all_goals kernel_rfl
  all_goals kernel_rfl
 all_goals kernel_rfl
theorem S_impl_Stream_fits_4594 (k : Nat) (a1 : Int) (a2 : Int) (a3 : Int) (a4 : Bool) (a5 : Int) (a6 : Int) (a7 : Int) (a8 : Bool) (a9 : (List (Int × (Int × Int)))) (a10 : (List Int)) (a11 : (List Int)) (a12 : (List Int)) (r : Bool) (hF : F_impl_Stream_fits_4594 k a1 a2 a3 a4 a5 a6 a7 a8 a9 a10 a11 a12 = some r) : Spec Tryz.prog 34 [pT 0 0] [.box [.sl 1, .sl 2, ci a1, ci a2, ci a3, .bool a4, ci a5, ci a6, ci a7, .bool a8, .sl 3, .sl 4], .row tyIII a9, .row tyI a10, .row tyI a11, .row tyI a12] (bB r) [.box [.sl 1, .sl 2, ci a1, ci a2, ci a3, .bool a4, ci a5, ci a6, ci a7, .bool a8, .sl 3, .sl 4], .row tyIII a9, .row tyI a10, .row tyI a11, .row tyI a12] := by
 refine Spec.of 5 26 Tryz.func34 rfl rfl (Nat.le_of_ble_eq_true rfl) rfl fun w0 S0 Z0 M0 R0 hE => ?_
 unfold F_impl_Stream_fits_4594 at hF
 refine .seq ?_
 refine .xW [] none ⟨[(2, bB false), (0, pT 0 0)], [.box [.sl 1, .sl 2, ci a1, ci a2, ci a3, .bool a4, ci a5, ci a6, ci a7, .bool a8, .sl 3, .sl 4], .row tyIII a9, .row tyI a10, .row tyI a11, .row tyI a12]⟩ [] trivial ?_ ?_
 refine .seq ?_
 refine .uB [0, 1, 2, 3, 4, 5, 6, 7] [8, 9, 10, 11, 12, 13, 14, 15, 16, 17, 18, 19, 20, 21, 22, 23] [] [] rfl trivial ?_ ?_
 rcases condE hF with ⟨he, hF⟩ | ⟨he, hF⟩
 ·
  refine WT.putB [10, 9] he ?_ ?_
  refine .uN [8, 9, 10, 11, 12, 13, 14, 15] [16, 17, 18, 19, 20, 21, 22, 23] [] [] rfl trivial ?_ ?_
  rcases condE hF with ⟨he, hF⟩ | ⟨he, hF⟩
  ·
   refine WT.putB [18, 17, 16] he ?_ ?_
   refine .vE [] (some ([0, 1, 2, 3, 4], [2])) [] trivial ?_ ?_
   cases hF
   exact .xR hE [] [0, 1, 2, 3, 4] (by kernel_rfl)
   all_goals kernel_rfl
  ·
   refine WT.putB [18, 17, 16] he ?_ ?_
   refine .vE [] (some ([0, 1, 2, 3, 4], [2])) [] trivial ?_ ?_
   cases hF
   exact .xR hE [] [0, 1, 2, 3, 4] (by kernel_rfl)
   all_goals kernel_rfl
  all_goals kernel_rfl
 ·
  refine WT.putB [10, 9] he ?_ ?_
  refine .vE [] (some ([0, 1, 2, 3, 4], [2])) [] trivial ?_ ?_
  cases hF
  exact .xR hE [] [0, 1, 2, 3, 4] (by kernel_rfl)
  all_goals kernel_rfl
 all_goals kernel_rfl
end Go.Proofs.YtmbbapeiikifgaaGreatDoor
