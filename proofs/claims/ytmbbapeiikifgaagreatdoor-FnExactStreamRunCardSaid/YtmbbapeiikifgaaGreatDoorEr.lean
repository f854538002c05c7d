/- The law FnExactStreamRun of the seat: from the row's own words to the plain law. -/
import Derived.Test.YtmbbapeiikifgaaGreatDoorEo
import Derived.Test.YtmbbapeiikifgaaGreatDoorTie
import Derived.Test.YtmbbapeiikifgaaGreatDoorPi
import Derived.Test.YtmbbapeiikifgaaGreatDoorPgS3
namespace Go.Proofs.YtmbbapeiikifgaaGreatDoor
open Go Go.ChangeShapes Go.WideShapes Go.ChangeAt Go.RowKit
set_option maxRecDepth 10000 in
theorem contract_StreamRun (H : Type) (enc : TypeId × Value → H) (W : World) (base : Nat) (args : Array Value) (ds gs : List (DataW H)) (before : List MemPlace)
    (hval : ∀ (j : Nat) t v, Tryz.f5.params[j]? = some t → args[j]? = some v → Value.okWide Tryz.prog W .any base t v)
    (hW : DataW.Whole enc Tryz.prog Tryz.f5.params.toList Rows.fnExactStreamRunSpec.vars false W args.toList ds gs before) (hL : laidMetH Tryz.prog Rows.fnExactStreamRunRow.laid W) :
    Calls Tryz.prog 5 args W fun e W' => ∃ v, e = .returned v ∧ Rows.fnExactStreamRunSpec.post enc Tryz.prog Tryz.f5 false true false false W args v W' := by
  have hW' := hW
  obtain ⟨p, q, hA0, hV, rfl, hfz, hnd⟩ := hW
  have hA : DataW.TrodAll enc Tryz.prog W 0 (fun _ => true) true Tryz.f5.params.toList args.toList ds p := hA0
  rw [Tryz.params5] at hA hval
  obtain ⟨v0, v1, d0, d1, p0, p1, rfl, rfl, rfl, h0, h1⟩ := trodAll_two hA
  obtain ⟨rfl, rfl⟩ := trodVars_none hV
  obtain ⟨⟨a1, a2, ⟨a3, a4, a5, a6⟩, ⟨a7, a8, a9, a10⟩, a11, a12⟩, s0, r0⟩ := open_arg (ty := tyStream) (n := 12) Tryz.underlying51 (by kernel_rfl) (hval 0 51 v0 rfl rfl) h0
  obtain ⟨a13, s1, r1⟩ := open_slice_arg (u := tyAction) (n := 12) Tryz.underlying60 (by kernel_rfl) (hval 1 60 v1 rfl rfl) h1
  obtain ⟨k, hk⟩ : ∃ k, K0 ≤ k := ⟨K0, Nat.le_refl _⟩
  have hF := law_StreamRun hk a1 a2 a3 a4 a5 a6 a7 a8 a9 a10 a11 a12 a13 s0.1.1 s0.2.1.1 s0.2.2.2.2.1.1 s0.2.2.2.2.2.1 s1.1 (fun x hx => (s1.2 x hx).2.2)
  have hC := S_laws_FnExactStreamRun k a1 a2 a3 a4 a5 a6 a7 a8 a9 a10 a11 a12 a13 true hF W [] (zoneOf W) [v0, v1] (hRel0 hL) ⟨v0, _, rfl, r0, v1, _, rfl, r1, rfl⟩
  simp only [List.append_nil] at hW'
  have hl0 : ∀ x ∈ p0, x.block < W.heap.size := fun x hx => by simpa using hW'.lt x (List.mem_append_left _ hx)
  have hl1 : ∀ x ∈ p1, x.block < W.heap.size := fun x hx => by simpa using hW'.lt x (List.mem_append_right _ hx)
  refine hC.mono fun e W' ⟨v, M', Z', he, hf⟩ => ?_
  obtain rfl : v = .bool true := hf.rel
  have hb := below_of_fin hf
  subst he
  refine ⟨_, rfl, _, _, _, [], p0 ++ p1, [], hW', ?_, ?_, rfl, hb.frame _, fun h => by cases h⟩
  · exact trodAll_mk1 (shut_bool Tryz.underlying4 _)
  · exact trodAll_mk2 (Below.trod en_out (by kernel_rfl) (of_decide_eq_true (by kernel_rfl)) h0 hb hl0) (Below.trod en_out (by kernel_rfl) (of_decide_eq_true (by kernel_rfl)) h1 hb hl1)
set_option maxRecDepth 100000 in
theorem readsR (os : Os) {H : Type} (enc : TypeId × Value → H) : (DataW.whole enc Tryz.prog ((laidWorld os).forCall (fun _ _ => 0) ⟨#[], #[argS, n0], []⟩).memory Tryz.f5.params.toList Rows.fnExactStreamRunSpec.vars false #[argS, n0].toList 8).map (fun x => (x.1, x.2.1)) =
    some ([.agg [.agg [.nil], .nil, .agg [.lit (.int .i64 0), .lit (.int .i64 0), .lit (.int .i64 0), .lit (.bool false)], .agg [.lit (.int .i64 0), .lit (.int .i64 0), .lit (.int .i64 0), .lit (.bool false)], .nil, .nil], .nil], []) := by kernel_rfl
set_option maxRecDepth 100000 in
theorem liftedR (os : Os) (started : os.Started) (H : Type) (enc : TypeId × Value → H) (F : Stop.Interp) :
    ReturnsInHanded {} Tryz.checked os 5 .any ((OpenSpec.ofChange Rows.fnExactStreamRunSpec).preRow enc Tryz.prog Tryz.f5 Rows.fnExactStreamRunRow.domain false Rows.fnExactStreamRunRow.laid) (((OpenSpec.ofChange Rows.fnExactStreamRunSpec).at F).post enc Tryz.prog Tryz.f5 false true false false) := by
  obtain ⟨⟨x1, x2, x3⟩, hx, hx1⟩ := Option.map_eq_some_iff.1 (readsR os enc)
  simp only [Prod.mk.injEq] at hx1
  obtain ⟨rfl, rfl⟩ := hx1
  refine returnsInHanded_of_row (C := Tryz.checked) (s := OpenSpec.ofChange Rows.fnExactStreamRunSpec) en_own started (by kernel_rfl) Tryz.func5
    (witness_row_atRef (enc := enc) (C := Tryz.checked) false (laidWorld os) #[argS, n0] rfl (by kernel_rfl) (by kernel_rfl) (by kernel_rfl)
      (OpenSpec.preRow_of_cond 8 hx (by kernel_rfl) (fun k hk => by cases hk) (by kernel_rfl) (laid_met os _))) ?_
  intro W base args ds gs before hval hW _ _ _ hL _ _
  exact contract_StreamRun H enc W base args ds gs before hval hW hL
theorem saidR : Rows.FnExactStreamRunSaid :=
  OpenClaim.holds_of_cond 5 Tryz.f5 rfl rfl rfl rfl rfl rfl rfl ⟨rfl, rfl, rfl, rfl, rfl⟩ rfl rfl rfl rfl rfl (by kernel_rfl) Tryz.func5 (by kernel_rfl)
    (of_decide_eq_true (by kernel_rfl)) (by unfold Func.isWrapper; first | (rw [if_pos (by decide +kernel)]; kernel_rfl) | (rw [if_neg (by decide +kernel)]; exact ⟨rfl, rfl⟩))
    (fun os started H enc _ F => by rw [OpenClaim.pre_eq_preRow]; exact liftedR os started H enc F)
theorem plain_fnR (f : FuncId) (fn : Func) (hf : Tryz.pinned.checked.prog.funcNamed "loop.example/g00122/laws.FnExactStreamRun" = some f) (hfn : Tryz.pinned.checked.prog.funcs[f]? = some fn) :
    true = Tryz.pinned.checked.prog.looks [] ∧ ∀ (j : Nat) t, fn.params[j]? = some t → Tryz.pinned.checked.prog.wantsStandIn t = false := by
  obtain rfl : f = 5 := Option.some.inj ((show Tryz.prog.funcNamed "loop.example/g00122/laws.FnExactStreamRun" = some 5 by kernel_rfl).symm.trans hf) |>.symm
  obtain rfl : fn = Tryz.f5 := (Option.some.inj (Tryz.func5.symm.trans hfn)).symm
  refine ⟨by kernel_rfl, fun j t ht => ?_⟩
  rw [Tryz.params5] at ht
  have ht := Array.mem_of_getElem? ht
  simp only [List.mem_toArray, List.mem_cons, List.not_mem_nil, or_false] at ht
  rcases ht with rfl | rfl
  · exact (show Tryz.prog.wantsStandIn 51 = false by kernel_rfl)
  · exact (show Tryz.prog.wantsStandIn 60 = false by kernel_rfl)
theorem streamRun_holds : Rows.FnExactStreamRunCardSaid :=
  Claim7.holds_tied_plain_at .later [] _ _ _ _ saidR (fun _ h => by cases h) (by kernel_rfl) (fun _ h => by cases h) fnExactStreamRun_row_tie rfl ⟨rfl, rfl⟩ (by kernel_rfl) rfl plain_fnR (by kernel_rfl)
end Go.Proofs.YtmbbapeiikifgaaGreatDoor
