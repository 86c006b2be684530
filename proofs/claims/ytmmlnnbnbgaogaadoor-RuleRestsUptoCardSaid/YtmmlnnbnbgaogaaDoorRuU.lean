/- A world for the witness: the listed variables hold what they are listed with. -/
import Derived.Test.YtmmlnnbnbgaogaaDoorRows
import Derived.ProofKit
import Derived.Deep.DeepHandedRow
import Derived.Deep.DeepWitnessRowRef
import Derived.Deep.DeepLaidRun
namespace Go.Proofs.YtmmlnnbnbgaogaaDoor
open Go.RowKit

/-- the cells of a listed table -/
def lit1 : DataW Unit → List Value
  | .lit (.int k n) => [.int k n]
  | _ => []
def aggC : DataW Unit → Array Value
  | .agg ps => (ps.flatMap fun d => match d with
    | .agg qs => qs.flatMap lit1
    | d => lit1 d).toArray
  | _ => #[]
def textC : DataW Unit → ByteArray
  | .iface _ (.ptr (.agg [.lit (.string s)])) => ⟨s.toArray⟩
  | _ => ⟨#[]⟩

def putC (h : Array Obj) (g : Nat) (cs : Array Value) : Array Obj := h.modify g fun
  | .cells _ t frozen => .cells cs t frozen
  | o => o

noncomputable def low0 : Nat := (World.holding Tryd.prog default ⟨#[], #[], []⟩).heap.size

noncomputable def laidHeap (h0 : Array Obj) : Array Obj :=
  let h1 := putC h0 6 (aggC Rows.laid_math_bits_deBruijn32tab)
  let h2 := putC h1 7 (aggC Rows.laid_math_bits_deBruijn64tab)
  let h3 := putC h2 5 (aggC Rows.laid_internal_strconv_uint64pow10)
  let h4 := putC h3 2 (aggC Rows.laid_unicode_utf8_acceptRanges)
  let h5 := putC h4 1 (aggC Rows.laid_unicode_utf8_first)
  let h6 := putC h5 4 #[.iface 134 (.pointer (some ⟨low0, 0, none⟩))]
  putC h6 3 #[.iface 134 (.pointer (some ⟨low0 + 1, 0, none⟩))]

noncomputable def laidWorld (os : Os) : World :=
  let w0 := World.holding Tryd.prog os ⟨#[.cells #[.string (textC Rows.laid_strconv_ErrRange)] 136, .cells #[.string (textC Rows.laid_strconv_ErrSyntax)] 136], #[], []⟩
  { w0 with heap := laidHeap w0.heap }

def zeroArgs : Array Value := #[.string ⟨#[]⟩, .agg #[.string ⟨#[]⟩, .int .i64 0, .int .i64 0, .string ⟨#[]⟩, .string ⟨#[]⟩, .int .i64 0]]

theorem laid_met (os : Os) : laidMet Tryd.prog Rows.ruleBlanksRow.laid ((laidWorld os).forCall (fun _ _ => 0) ⟨#[], zeroArgs, []⟩).memory :=
  laidMet_of_run3 8 (by kernel_rfl) (by kernel_rfl) (by kernel_rfl)
theorem blanks_reads (os : Os) {H : Type} (enc : TypeId × Value → H) : ∃ places, DataW.whole enc Tryd.prog ((laidWorld os).forCall (fun _ _ => 0) ⟨#[], zeroArgs, []⟩).memory Tryd.f3.params.toList Rows.ruleBlanksSpec.vars false zeroArgs.toList 8 = some ([.lit (.string []), .agg [.lit (.string []), .lit (.int .i64 0), .lit (.int .i64 0), .lit (.string []), .lit (.string []), .lit (.int .i64 0)]], [], places) :=
  ⟨[], by kernel_rfl⟩
theorem blanks_vars (os : Os) : ((laidWorld os).forCall (fun _ _ => 0) ⟨#[], zeroArgs, []⟩).variablesRefB Tryd.prog = true := by kernel_rfl
theorem blanks_rest (os : Os) : ((((laidWorld os).forCall (fun _ _ => 0) ⟨#[], zeroArgs, []⟩).heap.toList.drop Tryd.prog.globals.size).take ((begin Tryd.prog (fun _ _ => 0) default).world.heap.size - Tryd.prog.globals.size) =
      (begin Tryd.prog (fun _ _ => 0) default).world.heap.toList.drop Tryd.prog.globals.size) := by kernel_rfl
theorem blanks_ok (os : Os) : Input.okWideB Tryd.prog ((laidWorld os).forCall (fun _ _ => 0) ⟨#[], zeroArgs, []⟩) 3 ⟨#[], zeroArgs, []⟩ = true := by kernel_rfl
end Go.Proofs.YtmmlnnbnbgaogaaDoor
