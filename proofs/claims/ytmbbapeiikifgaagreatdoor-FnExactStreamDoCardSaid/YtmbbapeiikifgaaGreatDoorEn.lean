/- The law FnExactStreamDo of the seat: from the row's own words to the plain law. -/
import Derived.Test.YtmbbapeiikifgaaGreatDoorCards
import Derived.Test.YtmbbapeiikifgaaGreatDoorTie
import Derived.Test.YtmbbapeiikifgaaGreatDoorSlW
import Derived.Test.YtmbbapeiikifgaaGreatDoorPh
import Derived.Test.YtmbbapeiikifgaaGreatDoorPgS3
import Derived.ProofKit
import Derived.Deep.DeepHandedRow
import Derived.Deep.DeepWitnessRowRef
import Derived.Lib.LaidTab
import Derived.Stop.LaidErr
import Derived.WalkKit
namespace Go.Proofs.YtmbbapeiikifgaaGreatDoor
open Go Go.ChangeShapes Go.WideShapes Go.ChangeAt Go.RowKit

theorem en_own : ownKnob Tryz.prog.godebug = none := by kernel_rfl
theorem en_out : laidOutB Tryz.prog = true := by kernel_rfl
theorem g0 : Tryz.prog.globalNamed "strconv.ErrSyntax" = some 0 := by kernel_rfl
theorem g1 : Tryz.prog.globalNamed "strconv.ErrRange" = some 1 := by kernel_rfl
theorem g2 : Tryz.prog.globalNamed "internal/strconv.uint64pow10" = some 2 := by kernel_rfl
theorem g0T : (Tryz.prog.globals[0]?).map (·.type) = some 181 := by kernel_rfl
theorem g1T : (Tryz.prog.globals[1]?).map (·.type) = some 181 := by kernel_rfl
theorem g2T : (Tryz.prog.globals[2]?).map (·.type) = some 214 := by kernel_rfl
theorem star : "*" ++ "errors.errorString" = "*errors.errorString" := by decide
theorem row210 (u : TypeId) (h : Tryz.prog.typeName? 3 u = some "*errors.errorString") : u = 210 :=
  typeName_ptr_named (nm := "errors.errorString") (by rw [star]; kernel_rfl) (by kernel_rfl) (by decide) u (by rw [star]; exact h)
theorem c197 : Tryz.prog.cellsOf 197 = 1 := by kernel_rfl
theorem c214 : Tryz.prog.cellsOf 214 = 20 := by kernel_rfl
theorem c212 : Tryz.prog.cellsOf 212 = 1 := by kernel_rfl
theorem c9 : Tryz.prog.cellsOf 9 = 1 := by kernel_rfl

/-- The variables that the row lists, as they stand in every row of the seat. -/
abbrev laid5 : List (String × DataW Unit) := [("math/bits.deBruijn32tab", Rows.laid_math_bits_deBruijn32tab), ("math/bits.deBruijn64tab", Rows.laid_math_bits_deBruijn64tab), ("internal/strconv.uint64pow10", Lib.tabData .u64 Lib.pow10Tab), ("strconv.ErrRange", Rows.laid_strconv_ErrRange), ("strconv.ErrSyntax", Rows.laid_strconv_ErrSyntax)]

theorem var_heap {P : Program} {w : World} {n : String} {g : Nat} {cs : Array Value} (hg : P.globalNamed n = some g) (h : w.var? P n = some cs) : ∃ e fr, w.heap[g]? = some (.cells cs e fr) := by
  unfold World.var? at h
  rw [hg] at h
  simp only [Option.bind_some] at h
  split at h
  · rename_i c e fr hh
    cases h
    exact ⟨_, _, hh⟩
  · cases h

theorem gRel {W : World} (h : laidMet Tryz.prog laid5 W) : GRel (zoneOf W) W := by
  have ht : Lib.TabIs Tryz.prog W "internal/strconv.uint64pow10" .u64 Lib.pow10Tab := Lib.tabIs_of_head g2 g2T Tryz.underlying214 Tryz.underlying197 c197 c214 h.tail.tail
  obtain ⟨a1, _, v1, _⟩ := laid_sentinel h.tail.tail.tail g1 g1T Tryz.underlying181 row210 Tryz.underlying210 Tryz.underlying212 rfl rfl Tryz.underlying9 c212 c9
  obtain ⟨a0, _, v0, _⟩ := laid_sentinel h.tail.tail.tail.tail g0 g0T Tryz.underlying181 row210 Tryz.underlying210 Tryz.underlying212 rfl rfl Tryz.underlying9 c212 c9
  obtain ⟨e0, f0, h0⟩ := var_heap g0 v0
  obtain ⟨e1, f1, h1⟩ := var_heap g1 v1
  obtain ⟨e2, f2, h2⟩ := var_heap g2 ht
  have lt : ∀ {b : Nat} {o : Obj}, W.heap[b]? = some o → b < W.heap.size := fun h => (Array.getElem?_eq_some_iff.1 h).1
  intro b g hb
  simp only [glbs, List.mem_cons, List.not_mem_nil, or_false, Prod.mk.injEq] at hb
  rcases hb with ⟨rfl, rfl⟩ | ⟨rfl, rfl⟩ | ⟨rfl, rfl⟩
  · exact ⟨fun _ => lt h0, _, _, by unfold World.cell?; rw [h0]; rfl⟩
  · exact ⟨fun _ => lt h1, _, _, by unfold World.cell?; rw [h1]; rfl⟩
  · exact ⟨fun _ => lt h2, e2, f2, h2⟩

theorem hRel0 {W : World} (h : laidMet Tryz.prog laid5 W) : HRel [] [] (zoneOf W) W :=
  ⟨rfl, fun i o p h => by simp at h, fun i j p q h => by simp at h, fun i p h => by simp at h, fun i p k j h => by simp at h, fun k j h => h, gRel h⟩

abbrev tyLink : Ty := .pair tyI (.pair tyI (.pair tyI .bool))
abbrev tyStream : Ty := .pair (.own tyIII) (.pair (.own tyI) (.pair tyLink (.pair tyLink (.pair (.own tyI) (.own tyI)))))
abbrev tyAction : Ty := .pair tyI (.pair tyI .str)

set_option maxRecDepth 10000 in
theorem contract_StreamDo (H : Type) (enc : TypeId × Value → H) (W : World) (base : Nat) (args : Array Value) (ds gs : List (DataW H)) (before : List MemPlace)
    (hval : ∀ (j : Nat) t v, Tryz.f4.params[j]? = some t → args[j]? = some v → Value.okWide Tryz.prog W .any base t v)
    (hW : DataW.Whole enc Tryz.prog Tryz.f4.params.toList Rows.fnExactStreamDoSpec.vars false W args.toList ds gs before) (hL : laidMetH Tryz.prog Rows.fnExactStreamDoRow.laid W) :
    Calls Tryz.prog 4 args W fun e W' => ∃ v, e = .returned v ∧ Rows.fnExactStreamDoSpec.post enc Tryz.prog Tryz.f4 false true false false W args v W' := by
  have hW' := hW
  obtain ⟨p, q, hA0, hV, rfl, hfz, hnd⟩ := hW
  have hA : DataW.TrodAll enc Tryz.prog W 0 (fun _ => true) true Tryz.f4.params.toList args.toList ds p := hA0
  rw [Tryz.params4] at hA hval
  obtain ⟨v0, v1, d0, d1, p0, p1, rfl, rfl, rfl, h0, h1⟩ := trodAll_two hA
  obtain ⟨rfl, rfl⟩ := trodVars_none hV
  obtain ⟨⟨a1, a2, ⟨a3, a4, a5, a6⟩, ⟨a7, a8, a9, a10⟩, a11, a12⟩, s0, r0⟩ := open_arg (ty := tyStream) (n := 12) Tryz.underlying51 (by kernel_rfl) (hval 0 51 v0 rfl rfl) h0
  obtain ⟨⟨a13, a14, a15⟩, s1, r1⟩ := open_arg (ty := tyAction) (n := 12) Tryz.underlying52 (by kernel_rfl) (hval 1 52 v1 rfl rfl) h1
  obtain ⟨k, hk⟩ : ∃ k, K0 ≤ k := ⟨K0, Nat.le_refl _⟩
  have hF := law_StreamDo hk a1 a2 a3 a4 a5 a6 a7 a8 a9 a10 a11 a12 a13 a14 a15 s0.1.1 s0.2.1.1 s0.2.2.2.2.1.1 s0.2.2.2.2.2.1 s1.2.2
  have hC := S_laws_FnExactStreamDo k a1 a2 a3 a4 a5 a6 a7 a8 a9 a10 a11 a12 a13 a14 a15 true hF W [] (zoneOf W) [v0, v1] (hRel0 hL) ⟨v0, _, rfl, r0, v1, _, rfl, r1, rfl⟩
  simp only [List.append_nil] at hW'
  have hl0 : ∀ x ∈ p0, x.block < W.heap.size := fun x hx => by simpa using hW'.lt x (List.mem_append_left _ hx)
  have hl1 : ∀ x ∈ p1, x.block < W.heap.size := fun x hx => by simpa using hW'.lt x (List.mem_append_right _ hx)
  refine hC.mono fun e W' ⟨v, M', Z', he, hf⟩ => ?_
  obtain rfl : v = .bool true := hf.rel
  have hb := below_of_fin hf
  subst he
  refine ⟨_, rfl, _, _, _, [], p0 ++ p1, [], hW', ?_, ?_, rfl, hb.frame _, fun h => by cases h⟩
  · exact trodAll_mk1 (shut_bool Tryz.underlying4 _)
  · exact trodAll_mk2 (Below.trod en_out (by kernel_rfl) (of_decide_eq_true (by kernel_rfl)) h0 hb hl0) (Below.trod en_out (by kernel_rfl) (of_decide_eq_true (by kernel_rfl)) h1 hb hl1)

/-! ### One start that fits -/
abbrev synS : ByteArray := { data := #[105, 110, 118, 97, 108, 105, 100, 32, 115, 121, 110, 116, 97, 120] }
abbrev rngS : ByteArray := { data := #[118, 97, 108, 117, 101, 32, 111, 117, 116, 32, 111, 102, 32, 114, 97, 110, 103, 101] }
noncomputable def low : Nat := (World.holding Tryz.prog default ⟨#[], #[], []⟩).heap.size
def litsOf : DataW Unit → Array Value
  | .agg ds => (ds.map fun d => match d with | .lit (.int k n) => Value.int k n | _ => .bool false).toArray
  | _ => #[]
noncomputable def laidWorld (os : Os) : World :=
  let w0 := World.holding Tryz.prog os ⟨#[.cells #[.string synS] 212, .cells #[.string rngS] 212], #[], []⟩
  let put (g : Nat) (cs : Array Value) (h : Array Obj) : Array Obj := h.modify g fun
    | .cells _ t frozen => .cells cs t frozen
    | o => o
  { w0 with heap := put 4 (litsOf Rows.laid_math_bits_deBruijn64tab) (put 3 (litsOf Rows.laid_math_bits_deBruijn32tab) (put 2 (litsOf Rows.laid_internal_strconv_uint64pow10) (put 1 #[.iface 210 (.pointer (some ⟨low + 1, 0, none⟩))] (put 0 #[.iface 210 (.pointer (some ⟨low, 0, none⟩))] w0.heap)))) }

set_option maxRecDepth 100000 in
theorem laid_met (os : Os) (args : Array Value) : laidMet Tryz.prog Rows.fnExactStreamDoRow.laid ((laidWorld os).forCall (fun _ _ => 0) ⟨#[], args, []⟩).memory :=
  laidMet_of_run' 8 (by kernel_rfl) (by kernel_rfl)

abbrev i0 : Value := .int .i64 0
abbrev n0 : Value := .slice none 0 0
abbrev argS : Value := .agg #[n0, n0, i0, i0, i0, .bool false, i0, i0, i0, .bool false, n0, n0]
abbrev argA : Value := .agg #[i0, i0, .string ⟨#[]⟩]

set_option maxRecDepth 100000 in
theorem reads (os : Os) {H : Type} (enc : TypeId × Value → H) : (DataW.whole enc Tryz.prog ((laidWorld os).forCall (fun _ _ => 0) ⟨#[], #[argS, argA], []⟩).memory Tryz.f4.params.toList Rows.fnExactStreamDoSpec.vars false #[argS, argA].toList 8).map (fun x => (x.1, x.2.1)) =
    some ([.agg [.agg [.nil], .nil, .agg [.lit (.int .i64 0), .lit (.int .i64 0), .lit (.int .i64 0), .lit (.bool false)], .agg [.lit (.int .i64 0), .lit (.int .i64 0), .lit (.int .i64 0), .lit (.bool false)], .nil, .nil], .agg [.lit (.int .i64 0), .lit (.int .i64 0), .lit (.string [])]], []) := by kernel_rfl

set_option maxRecDepth 100000 in
theorem lifted (os : Os) (started : os.Started) (H : Type) (enc : TypeId × Value → H) (F : Stop.Interp) :
    ReturnsInHanded {} Tryz.checked os 4 .any ((OpenSpec.ofChange Rows.fnExactStreamDoSpec).preRow enc Tryz.prog Tryz.f4 Rows.fnExactStreamDoRow.domain false Rows.fnExactStreamDoRow.laid) (((OpenSpec.ofChange Rows.fnExactStreamDoSpec).at F).post enc Tryz.prog Tryz.f4 false true false false) := by
  obtain ⟨⟨x1, x2, x3⟩, hx, hx1⟩ := Option.map_eq_some_iff.1 (reads os enc)
  simp only [Prod.mk.injEq] at hx1
  obtain ⟨rfl, rfl⟩ := hx1
  refine returnsInHanded_of_row (C := Tryz.checked) (s := OpenSpec.ofChange Rows.fnExactStreamDoSpec) en_own started (by kernel_rfl) Tryz.func4
    (witness_row_atRef (enc := enc) (C := Tryz.checked) false (laidWorld os) #[argS, argA] rfl (by kernel_rfl) (by kernel_rfl) (by kernel_rfl)
      (OpenSpec.preRow_of_cond 8 hx (by kernel_rfl) (fun k hk => by cases hk) (by kernel_rfl) (laid_met os _))) ?_
  intro W base args ds gs before hval hW _ _ _ hL _ _
  exact contract_StreamDo H enc W base args ds gs before hval hW hL

theorem said : Rows.FnExactStreamDoSaid :=
  OpenClaim.holds_of_cond 4 Tryz.f4 rfl rfl rfl rfl rfl rfl rfl ⟨rfl, rfl, rfl, rfl, rfl⟩ rfl rfl rfl rfl rfl (by kernel_rfl) Tryz.func4 (by kernel_rfl)
    (of_decide_eq_true (by kernel_rfl)) (by unfold Func.isWrapper; first | (rw [if_pos (by decide +kernel)]; kernel_rfl) | (rw [if_neg (by decide +kernel)]; exact ⟨rfl, rfl⟩))
    (fun os started H enc _ F => by rw [OpenClaim.pre_eq_preRow]; exact lifted os started H enc F)

theorem plain_fn (f : FuncId) (fn : Func) (hf : Tryz.pinned.checked.prog.funcNamed "loop.example/g00122/laws.FnExactStreamDo" = some f) (hfn : Tryz.pinned.checked.prog.funcs[f]? = some fn) :
    true = Tryz.pinned.checked.prog.looks [] ∧ ∀ (j : Nat) t, fn.params[j]? = some t → Tryz.pinned.checked.prog.wantsStandIn t = false := by
  obtain rfl : f = 4 := Option.some.inj ((show Tryz.prog.funcNamed "loop.example/g00122/laws.FnExactStreamDo" = some 4 by kernel_rfl).symm.trans hf) |>.symm
  obtain rfl : fn = Tryz.f4 := (Option.some.inj (Tryz.func4.symm.trans hfn)).symm
  refine ⟨by kernel_rfl, fun j t ht => ?_⟩
  rw [Tryz.params4] at ht
  have ht := Array.mem_of_getElem? ht
  simp only [List.mem_toArray, List.mem_cons, List.not_mem_nil, or_false] at ht
  rcases ht with rfl | rfl
  · exact (show Tryz.prog.wantsStandIn 51 = false by kernel_rfl)
  · exact (show Tryz.prog.wantsStandIn 52 = false by kernel_rfl)

/-- The tied card of laws.FnExactStreamDo. -/
theorem streamDo_holds : Rows.FnExactStreamDoCardSaid :=
  Claim7.holds_tied_plain_at .later [] _ _ _ _ said (fun _ h => by cases h) (by kernel_rfl) (fun _ h => by cases h) fnExactStreamDo_row_tie rfl ⟨rfl, rfl⟩ (by kernel_rfl) rfl plain_fn (by kernel_rfl)
end Go.Proofs.YtmbbapeiikifgaaGreatDoor
