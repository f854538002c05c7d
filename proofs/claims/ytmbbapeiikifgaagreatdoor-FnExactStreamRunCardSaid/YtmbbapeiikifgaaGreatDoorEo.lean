/- From a row's own words to the plain laws: what the rows of the seat have in common. -/
import Derived.Test.YtmbbapeiikifgaaGreatDoorCards
import Derived.Test.YtmbbapeiikifgaaGreatDoorTie
import Derived.Test.YtmbbapeiikifgaaGreatDoorSlW
import Derived.Test.YtmbbapeiikifgaaGreatDoorPgF
import Derived.ProofKit
import Derived.Deep.DeepHandedRow
import Derived.Deep.DeepWitnessRowRef
import Derived.Lib.LaidTab
import Derived.Stop.LaidErr
import Derived.WalkKit
namespace Go.Proofs.YtmbbapeiikifgaaGreatDoor
open Go Go.ChangeShapes Go.WideShapes Go.ChangeAt Go.RowKit
theorem en_own : ownKnob Tryz.prog.godebug = none := by kernel_rfl
theorem en_out : laidOutB Tryz.prog = true := by kernel_rfl
theorem g0 : Tryz.prog.globalNamed "strconv.ErrSyntax" = some 0 := by kernel_rfl
theorem g1 : Tryz.prog.globalNamed "strconv.ErrRange" = some 1 := by kernel_rfl
theorem g2 : Tryz.prog.globalNamed "internal/strconv.uint64pow10" = some 2 := by kernel_rfl
theorem g0T : (Tryz.prog.globals[0]?).map (·.type) = some 181 := by kernel_rfl
theorem g1T : (Tryz.prog.globals[1]?).map (·.type) = some 181 := by kernel_rfl
theorem g2T : (Tryz.prog.globals[2]?).map (·.type) = some 214 := by kernel_rfl
theorem star : "*" ++ "errors.errorString" = "*errors.errorString" := by decide
theorem row210 (u : TypeId) (h : Tryz.prog.typeName? 3 u = some "*errors.errorString") : u = 210 :=
  typeName_ptr_named (nm := "errors.errorString") (by rw [star]; kernel_rfl) (by kernel_rfl) (by decide) u (by rw [star]; exact h)
theorem c197 : Tryz.prog.cellsOf 197 = 1 := by kernel_rfl
theorem c214 : Tryz.prog.cellsOf 214 = 20 := by kernel_rfl
theorem c212 : Tryz.prog.cellsOf 212 = 1 := by kernel_rfl
theorem c9 : Tryz.prog.cellsOf 9 = 1 := by kernel_rfl
abbrev laid5 : List (String × DataW Unit) := [("math/bits.deBruijn32tab", Rows.laid_math_bits_deBruijn32tab), ("math/bits.deBruijn64tab", Rows.laid_math_bits_deBruijn64tab), ("internal/strconv.uint64pow10", Lib.tabData .u64 Lib.pow10Tab), ("strconv.ErrRange", Rows.laid_strconv_ErrRange), ("strconv.ErrSyntax", Rows.laid_strconv_ErrSyntax)]
theorem var_heap {P : Program} {w : World} {n : String} {g : Nat} {cs : Array Value} (hg : P.globalNamed n = some g) (h : w.var? P n = some cs) : ∃ e fr, w.heap[g]? = some (.cells cs e fr) := by
  unfold World.var? at h
  rw [hg] at h
  simp only [Option.bind_some] at h
  split at h
  · rename_i c e fr hh
    cases h
    exact ⟨_, _, hh⟩
  · cases h
theorem gRel {W : World} (h : laidMet Tryz.prog laid5 W) : GRel (zoneOf W) W := by
  have ht : Lib.TabIs Tryz.prog W "internal/strconv.uint64pow10" .u64 Lib.pow10Tab := Lib.tabIs_of_head g2 g2T Tryz.underlying214 Tryz.underlying197 c197 c214 h.tail.tail
  obtain ⟨a1, _, v1, _⟩ := laid_sentinel h.tail.tail.tail g1 g1T Tryz.underlying181 row210 Tryz.underlying210 Tryz.underlying212 rfl rfl Tryz.underlying9 c212 c9
  obtain ⟨a0, _, v0, _⟩ := laid_sentinel h.tail.tail.tail.tail g0 g0T Tryz.underlying181 row210 Tryz.underlying210 Tryz.underlying212 rfl rfl Tryz.underlying9 c212 c9
  obtain ⟨e0, f0, h0⟩ := var_heap g0 v0
  obtain ⟨e1, f1, h1⟩ := var_heap g1 v1
  obtain ⟨e2, f2, h2⟩ := var_heap g2 ht
  have lt : ∀ {b : Nat} {o : Obj}, W.heap[b]? = some o → b < W.heap.size := fun h => (Array.getElem?_eq_some_iff.1 h).1
  intro b g hb
  simp only [glbs, List.mem_cons, List.not_mem_nil, or_false, Prod.mk.injEq] at hb
  rcases hb with ⟨rfl, rfl⟩ | ⟨rfl, rfl⟩ | ⟨rfl, rfl⟩
  · exact ⟨fun _ => lt h0, _, _, by unfold World.cell?; rw [h0]; rfl⟩
  · exact ⟨fun _ => lt h1, _, _, by unfold World.cell?; rw [h1]; rfl⟩
  · exact ⟨fun _ => lt h2, e2, f2, h2⟩
theorem hRel0 {W : World} (h : laidMet Tryz.prog laid5 W) : HRel [] [] (zoneOf W) W :=
  ⟨rfl, fun i o p h => by simp at h, fun i j p q h => by simp at h, fun i p h => by simp at h, fun i p k j h => by simp at h, fun k j h => h, gRel h⟩
abbrev tyLink : Ty := .pair tyI (.pair tyI (.pair tyI .bool))
abbrev tyStream : Ty := .pair (.own tyIII) (.pair (.own tyI) (.pair tyLink (.pair tyLink (.pair (.own tyI) (.own tyI)))))
abbrev tyAction : Ty := .pair tyI (.pair tyI .str)
abbrev synS : ByteArray := { data := #[105, 110, 118, 97, 108, 105, 100, 32, 115, 121, 110, 116, 97, 120] }
abbrev rngS : ByteArray := { data := #[118, 97, 108, 117, 101, 32, 111, 117, 116, 32, 111, 102, 32, 114, 97, 110, 103, 101] }
noncomputable def low : Nat := (World.holding Tryz.prog default ⟨#[], #[], []⟩).heap.size
def litsOf : DataW Unit → Array Value
  | .agg ds => (ds.map fun d => match d with | .lit (.int k n) => Value.int k n | _ => .bool false).toArray
  | _ => #[]
noncomputable def laidWorld (os : Os) : World :=
  let w0 := World.holding Tryz.prog os ⟨#[.cells #[.string synS] 212, .cells #[.string rngS] 212], #[], []⟩
  let put (g : Nat) (cs : Array Value) (h : Array Obj) : Array Obj := h.modify g fun
    | .cells _ t frozen => .cells cs t frozen
    | o => o
  { w0 with heap := put 4 (litsOf Rows.laid_math_bits_deBruijn64tab) (put 3 (litsOf Rows.laid_math_bits_deBruijn32tab) (put 2 (litsOf Rows.laid_internal_strconv_uint64pow10) (put 1 #[.iface 210 (.pointer (some ⟨low + 1, 0, none⟩))] (put 0 #[.iface 210 (.pointer (some ⟨low, 0, none⟩))] w0.heap)))) }
set_option maxRecDepth 100000 in
theorem laid_met (os : Os) (args : Array Value) : laidMet Tryz.prog laid5 ((laidWorld os).forCall (fun _ _ => 0) ⟨#[], args, []⟩).memory :=
  laidMet_of_run' 8 (by kernel_rfl) (by kernel_rfl)
abbrev i0 : Value := .int .i64 0
abbrev n0 : Value := .slice none 0 0
abbrev argS : Value := .agg #[n0, n0, i0, i0, i0, .bool false, i0, i0, i0, .bool false, n0, n0]
abbrev argA : Value := .agg #[i0, i0, .string ⟨#[]⟩]
theorem open_slice_arg {H : Type} {enc : TypeId × Value → H} {P : Program} {w : World} {base : Nat} {spare : Nat → Bool} {held : Bool} {t e : TypeId} {u : Ty} {n : Nat} {v : Value} {d : DataW H} {ps : List MemPlace} (ht : P.underlying t = some (.slice e)) (hty : isTy P n (.own u) t = true)
    {r : Reach} {b0 : Nat} (hval : Value.okWide P w r b0 t v) (h : DataW.Trod enc P w base spare held t v d ps) :
    ∃ xs : List u.T, sm (.own u) xs ∧ ARel [] (zoneOf w) w (.p (.c (.vw none u xs))) v := by
  obtain ⟨fuel, hf⟩ := h
  obtain ⟨y, hs, _, hc, _⟩ := (gives_ty n).1 (.own u) t fuel _ _ hty hf
  obtain ⟨v', r', e1, hc, e2⟩ := hc
  simp only [CsRel] at e2
  subst e2
  unfold Value.okWide at hval
  rw [ht] at hval
  simp only [Cell.okWide, ht, Cell.ok] at hval
  refine ⟨y, hs, ?_⟩
  cases v <;> simp only [Value.cells] at e1 hval <;> first | (exact hval.elim) | skip
  all_goals (have e1 := List.cons.inj e1; rw [e1.1]; exact hc)
end Go.Proofs.YtmbbapeiikifgaaGreatDoor
