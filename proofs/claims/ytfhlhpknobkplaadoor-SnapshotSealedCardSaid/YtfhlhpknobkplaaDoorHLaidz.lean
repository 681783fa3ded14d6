/- Merged: What the rows list: a world in which it holds; what the walks take from it. -/
import Derived.Test.YtfhlhpknobkplaaDoorRows
import Derived.Test.YtfhlhpknobkplaaDoorZSw4
import Derived.Lib.LaidIn
import Derived.Lib.LaidTab
import Derived.Stop.LaidErr
import Derived.LaidLaws
import Derived.ChangeSame
import Derived.ChangeVars
import Derived.ChangeMaps5
import Derived.JoinedOf
import Derived.JoinedAt
import Derived.RowKit
import Derived.RowKit3
import Derived.ProofKit
set_option linter.all false
namespace Go.Proofs.YtfhlhpknobkplaaDoor
open Go.ChangeShapes Go.WideShapes Go.ChangeAt Go.RowKit Go.Lib

def laidL : List (String × DataW Unit) := [("millpond/snapshot.half", Rows.laid_millpond_snapshot_half)]
def halfI : List Int := halfT.map (fun x : Nat => (x : Int))
theorem halfTab : (Rows.laid_millpond_snapshot_half : DataW Unit) = Lib.tabData .u32 halfI := by kernel_rfl

/-- From the list to what the walks ask. -/
theorem vs_of_laid {W : World} (hL : laidMet Tryd.prog laidL W) : Vs W := by
  have h := hL
  unfold laidL at h
  rw [halfTab] at h
  have ht := Lib.tabIs_of_head (g := 0) (t := 48) (e := 24) (n := 16) (by kernel_rfl) (by kernel_rfl) (by kernel_rfl) (by kernel_rfl) (by kernel_rfl) (by kernel_rfl) h
  intro i x hx
  have hi := (List.getElem?_eq_some_iff.1 hx).1
  have hc := ht.cell (g := 0) (by kernel_rfl) i (by unfold halfI; rw [List.length_map]; exact hi)
  rw [hc]
  unfold halfI
  rw [List.getD_eq_getElem?_getD, List.getElem?_map, hx]
  rfl

def litCells (d : DataW Unit) : Array Value := match d with
  | .agg l => (l.map fun x => match x with | .lit (.int k n) => Value.int k n | _ => .nilIface).toArray
  | _ => #[]

/-- The settled world, with the table laid. -/
noncomputable def laidWorld (os : Os) : World :=
  let w0 := World.holding Tryd.prog os ⟨#[], #[], []⟩
  let put (h : Array Obj) (g : Nat) (cs : Array Value) : Array Obj := h.modify g fun
    | .cells _ t frozen => .cells cs t frozen
    | o => o
  { w0 with heap := put w0.heap 0 (litCells Rows.laid_millpond_snapshot_half) }

set_option maxRecDepth 1000000 in
theorem laidWorld_met (os : Os) (args : Array Value) : laidMet Tryd.prog laidL ((laidWorld os).forCall (fun _ _ => 0) ⟨#[], args, []⟩).memory :=
  (LaidIn.of_run [0] 10 (by kernel_rfl) (by kernel_rfl) (by kernel_rfl) (by kernel_rfl)).met
end Go.Proofs.YtfhlhpknobkplaaDoor
