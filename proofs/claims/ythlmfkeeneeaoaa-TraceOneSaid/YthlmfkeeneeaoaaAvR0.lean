/- Generic: a calculus of what calls do to memory that is given by its values. It states nothing of the program. -/
import Derived.Test.YthlmfkeeneeaoaaRows
import Derived.Test.YthlmfkeeneeaoaaAvW2
import Derived.Test.YthlmfkeeneeaoaaAvG3
set_option linter.all false
set_option linter.unnecessarySimpa false
set_option linter.unusedVariables false
set_option linter.unusedSimpArgs false
namespace Go.Proofs.Ythlmfkeeneeaoaa
open Go Go.Av Go.ChangeShapes Go.WideShapes Go.ChangeAt Go.RowKit

theorem rdInt (W : World) : Reads Try.prog W 3 (fun n : Int => .v (.int .i64 n)) (fun n => (Lit.int .i64 n).wf = true) := reads_int Try.underlying3
theorem rdI64 (W : World) : Reads Try.prog W 2 (fun n : Int => .v (.int .i64 n)) (fun n => (Lit.int .i64 n).wf = true) := reads_int Try.underlying2
theorem rdPut (W : World) : Reads Try.prog W 51 aPut (fun _ => True) :=
  reads_struct2 (fun a b => (⟨a, b⟩ : Put)) aPut _ Try.underlying51 ⟨rfl, by kernel_rfl, by kernel_rfl⟩ (rdInt W) (rdInt W) (fun _ _ => rfl) (fun _ _ _ _ => trivial)
theorem rdPuts (W : World) : Reads Try.prog W 25 (fun l : List Put => .sl (l.map aPut)) (fun _ => True) := by
  intro H enc spare held fuel cs x h
  obtain ⟨l, _, hl⟩ := reads_slice Try.underlying25 (by decide +kernel) (rdPut W) H enc spare held fuel cs x h
  exact ⟨l, trivial, hl⟩
theorem rdFrame (W : World) : Reads Try.prog W 58 aFrame (fun _ => True) :=
  reads_struct2 (fun a b => (⟨a, b⟩ : Frame)) aFrame _ Try.underlying58 ⟨rfl, by kernel_rfl, by kernel_rfl⟩ (rdI64 W) (rdPuts W) (fun _ _ => rfl) (fun _ _ _ _ => trivial)
theorem rdTrace (W : World) : Reads Try.prog W 24 aTrace (fun _ => True) :=
  reads_struct2 (fun a b => (⟨a, b⟩ : Trace)) aTrace _ Try.underlying24 ⟨rfl, by kernel_rfl, by kernel_rfl⟩ (reads_slice Try.underlying22 (by decide +kernel) (rdFrame W)) (rdI64 W) (fun _ _ => rfl) (fun _ _ _ _ => trivial)
theorem own : ownKnob Try.prog.godebug = none := by kernel_rfl
theorem hlaid : laidOutB Try.prog = true := by kernel_rfl
theorem hmaps : mapsRowed Try.prog = true := by kernel_rfl
theorem hslices : ((List.range Try.prog.types.size).all fun t => match Try.prog.underlying t with | some (.slice e) => decide (0 < Try.prog.cellsOf e) | _ => true) = true := by kernel_rfl
end Go.Proofs.Ythlmfkeeneeaoaa
