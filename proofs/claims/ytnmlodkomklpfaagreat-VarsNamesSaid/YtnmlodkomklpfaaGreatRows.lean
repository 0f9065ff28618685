/-
  NARROWER THAN 'FOR EVERY INPUT', by the rows' own cells (each row's printed sentence says how): VarsTwice: loops · VarsNeeded: loops · VarsCycles: loops · VarsOwn: loops.
  DERIVED. THE GIVEN ROWS OF THIS SEAT. 5 by the template 'for every input the law returns true; each argument reads behind the call as it read before'; 0 by the template 'total and deterministic' (their statements: YtnmlodkomklpfaaGreatTotals.lean).
  GIVEN WITH THE SEED: the statements are not yours to turn. If you find one false, say at which input.
  Laid BY PROGRAM, IN A SANDBOX (cutbox-rows.mjs): the forced cells as the released guide's own fill.sh prints them over the translation c0bdd00ebe51480e… (all of the seat's roots in one cut). By AI agents, Wed Nov 11 2026. No macro, syntax, notation, axiom, sorry.
-/
import Derived.Test.YtnmlodkomklpfaaGreatChecked
import GoSem.Claim
import GoSem.ClaimJoined
import GoSem.ClaimMapViews
import Derived.JoinedTies
import Derived.KernelRfl
namespace Go.Proofs.YtnmlodkomklpfaaGreat
/- THE CELL 'sum', in the pinned program and in every row, IS THE sha256 OF THE DUMP (.gsa) THAT YtnmlodkomklpfaaGreatProg.lean LOADS. Nothing in Lean hashes anything: it is a label: what it is worth is what the hold of that sum in a sandbox is worth. -/
noncomputable def Tryz.pinned : Pinned := { name := "ytnmlodkomklpfaagreat", sum := "c0bdd00ebe51480e4f4dd9b47501ff43246fe536b879fcfe1c451cb08f0ced75", checked := Tryz.checked }
namespace Rows
def none {H : Type} : Left H := { results := [], args := [] }

/-- 'vitrinelaw30.VarsTwice': WHATEVER THE INPUT: true; the input reads as it did. -/
def varsTwiceSpec : ChangeSpec := { name := "varsTwice", fn := fun _ => fun
  | [d1, d2, d3] => { results := [.lit (.bool true)], args := [d1, d2, d3] }
  | _ => none }
def varsTwiceRow : OpenClaim := { program := "ytnmlodkomklpfaagreat", sum := "c0bdd00ebe51480e4f4dd9b47501ff43246fe536b879fcfe1c451cb08f0ced75", func := "vitrine/vitrinelaw30.VarsTwice", spec := "varsTwice", unfollowed := true, recurses := true, loops := true, apart := false }
def VarsTwiceSaid : Prop := varsTwiceRow.holds Tryz.pinned (OpenSpec.ofChange varsTwiceSpec)

/-- ITS FALSE NEIGHBOUR: 'it returns false'. Refute it at one input. -/
def varsTwiceWrong : ChangeSpec := { name := "varsTwice", fn := fun _ => fun
  | [d1, d2, d3] => { results := [.lit (.bool false)], args := [d1, d2, d3] }
  | _ => none }
def VarsTwiceWrongFalsely : Prop := varsTwiceRow.holds Tryz.pinned (OpenSpec.ofChange varsTwiceWrong)

/-- 'vitrinelaw30.VarsNeeded': WHATEVER THE INPUT: true; the input reads as it did. -/
def varsNeededSpec : ChangeSpec := { name := "varsNeeded", fn := fun _ => fun
  | [d1, d2] => { results := [.lit (.bool true)], args := [d1, d2] }
  | _ => none }
def varsNeededRow : OpenClaim := { program := "ytnmlodkomklpfaagreat", sum := "c0bdd00ebe51480e4f4dd9b47501ff43246fe536b879fcfe1c451cb08f0ced75", func := "vitrine/vitrinelaw30.VarsNeeded", spec := "varsNeeded", unfollowed := true, recurses := true, loops := true, apart := false }
def VarsNeededSaid : Prop := varsNeededRow.holds Tryz.pinned (OpenSpec.ofChange varsNeededSpec)

/-- ITS FALSE NEIGHBOUR: 'it returns false'. Refute it at one input. -/
def varsNeededWrong : ChangeSpec := { name := "varsNeeded", fn := fun _ => fun
  | [d1, d2] => { results := [.lit (.bool false)], args := [d1, d2] }
  | _ => none }
def VarsNeededWrongFalsely : Prop := varsNeededRow.holds Tryz.pinned (OpenSpec.ofChange varsNeededWrong)

/-- 'vitrinelaw30.VarsNames': WHATEVER THE INPUT: true; the input reads as it did. -/
def varsNamesSpec : ChangeSpec := { name := "varsNames", fn := fun _ => fun
  | [] => { results := [.lit (.bool true)], args := [] }
  | _ => none }
def varsNamesRow : OpenClaim := { program := "ytnmlodkomklpfaagreat", sum := "c0bdd00ebe51480e4f4dd9b47501ff43246fe536b879fcfe1c451cb08f0ced75", func := "vitrine/vitrinelaw30.VarsNames", spec := "varsNames", unfollowed := true, recurses := true, apart := false }
def VarsNamesSaid : Prop := varsNamesRow.holds Tryz.pinned (OpenSpec.ofChange varsNamesSpec)

/-- ITS FALSE NEIGHBOUR: 'it returns false'. Refute it at one input. -/
def varsNamesWrong : ChangeSpec := { name := "varsNames", fn := fun _ => fun
  | [] => { results := [.lit (.bool false)], args := [] }
  | _ => none }
def VarsNamesWrongFalsely : Prop := varsNamesRow.holds Tryz.pinned (OpenSpec.ofChange varsNamesWrong)

/-- 'vitrinelaw30.VarsCycles': WHATEVER THE INPUT: true; the input reads as it did. -/
def varsCyclesSpec : ChangeSpec := { name := "varsCycles", fn := fun _ => fun
  | [d] => { results := [.lit (.bool true)], args := [d] }
  | _ => none }
def varsCyclesRow : OpenClaim := { program := "ytnmlodkomklpfaagreat", sum := "c0bdd00ebe51480e4f4dd9b47501ff43246fe536b879fcfe1c451cb08f0ced75", func := "vitrine/vitrinelaw30.VarsCycles", spec := "varsCycles", unfollowed := true, recurses := true, loops := true, apart := false }
def VarsCyclesSaid : Prop := varsCyclesRow.holds Tryz.pinned (OpenSpec.ofChange varsCyclesSpec)

/-- ITS FALSE NEIGHBOUR: 'it returns false'. Refute it at one input. -/
def varsCyclesWrong : ChangeSpec := { name := "varsCycles", fn := fun _ => fun
  | [d] => { results := [.lit (.bool false)], args := [d] }
  | _ => none }
def VarsCyclesWrongFalsely : Prop := varsCyclesRow.holds Tryz.pinned (OpenSpec.ofChange varsCyclesWrong)

/-- 'vitrinelaw30.VarsOwn': WHATEVER THE INPUT: true; the input reads as it did. -/
def varsOwnSpec : ChangeSpec := { name := "varsOwn", fn := fun _ => fun
  | [d] => { results := [.lit (.bool true)], args := [d] }
  | _ => none }
def varsOwnRow : OpenClaim := { program := "ytnmlodkomklpfaagreat", sum := "c0bdd00ebe51480e4f4dd9b47501ff43246fe536b879fcfe1c451cb08f0ced75", func := "vitrine/vitrinelaw30.VarsOwn", spec := "varsOwn", unfollowed := true, recurses := true, loops := true, apart := false }
def VarsOwnSaid : Prop := varsOwnRow.holds Tryz.pinned (OpenSpec.ofChange varsOwnSpec)

/-- ITS FALSE NEIGHBOUR: 'it returns false'. Refute it at one input. -/
def varsOwnWrong : ChangeSpec := { name := "varsOwn", fn := fun _ => fun
  | [d] => { results := [.lit (.bool false)], args := [d] }
  | _ => none }
def VarsOwnWrongFalsely : Prop := varsOwnRow.holds Tryz.pinned (OpenSpec.ofChange varsOwnWrong)

/- THE SECOND FORM. 'bulk': how many values and letters a reading holds, each counted each time it is reached (what is shared counts as often as it is met; a slice's spare places count too). A statement '..UptoSaid' is the law's where the arguments, and the package variables that the reading takes, are together of bulk at most 1048576: NARROWER than '..Said'. Prove '..Said' where nothing that the law and all that it calls make is longer than what came in: it says more and counts as full. Else prove '..UptoSaid'. A law counts once. -/
mutual
def uptoBulk {H : Type} : DataW H → Nat
  | .lit (.string bytes) => bytes.length + 1
  | .lit _ => 1
  | .nil => 1
  | .ptr d => uptoBulk d + 1
  | .slice elems spare => uptoBulkAll elems + uptoBulkAll spare + 1
  | .agg parts => uptoBulkAll parts + 1
  | .iface _ d => uptoBulk d + 1
  | .map entries => uptoBulkEntries entries + 1
  | .held _ => 1
def uptoBulkAll {H : Type} : List (DataW H) → Nat
  | [] => 0
  | d :: r => uptoBulk d + uptoBulkAll r
def uptoBulkEntries {H : Type} : List (Lit × DataW H) → Nat
  | [] => 0
  | x :: r => uptoBulkEntry x + uptoBulkEntries r
def uptoBulkEntry {H : Type} : Lit × DataW H → Nat
  | (.string bytes, d) => bytes.length + uptoBulk d + 1
  | (_, d) => uptoBulk d + 1
 end
def uptoSmall : (H : Type) → List (DataW H) → Bool := fun _ ds => decide (uptoBulkAll ds ≤ 1048576)
def OpenSpec.upto (s : _root_.Go.ChangeSpec) : _root_.Go.OpenSpec := { _root_.Go.OpenSpec.ofChange s with cond := some uptoSmall }

/-- 'vitrinelaw30.VarsTwice', WHERE WHAT IT READS IS OF BULK AT MOST 1048576: true; the input reads as it did. -/
def varsTwiceUptoRow : OpenClaim := { program := "ytnmlodkomklpfaagreat", sum := "c0bdd00ebe51480e4f4dd9b47501ff43246fe536b879fcfe1c451cb08f0ced75", func := "vitrine/vitrinelaw30.VarsTwice", spec := "varsTwice", unfollowed := true, recurses := true, loops := true, apart := false, narrowed := true }
def VarsTwiceUptoSaid : Prop := varsTwiceUptoRow.holds Tryz.pinned (OpenSpec.upto varsTwiceSpec)

/-- 'vitrinelaw30.VarsNeeded', WHERE WHAT IT READS IS OF BULK AT MOST 1048576: true; the input reads as it did. -/
def varsNeededUptoRow : OpenClaim := { program := "ytnmlodkomklpfaagreat", sum := "c0bdd00ebe51480e4f4dd9b47501ff43246fe536b879fcfe1c451cb08f0ced75", func := "vitrine/vitrinelaw30.VarsNeeded", spec := "varsNeeded", unfollowed := true, recurses := true, loops := true, apart := false, narrowed := true }
def VarsNeededUptoSaid : Prop := varsNeededUptoRow.holds Tryz.pinned (OpenSpec.upto varsNeededSpec)

/-- 'vitrinelaw30.VarsNames', WHERE WHAT IT READS IS OF BULK AT MOST 1048576: true; the input reads as it did. -/
def varsNamesUptoRow : OpenClaim := { program := "ytnmlodkomklpfaagreat", sum := "c0bdd00ebe51480e4f4dd9b47501ff43246fe536b879fcfe1c451cb08f0ced75", func := "vitrine/vitrinelaw30.VarsNames", spec := "varsNames", unfollowed := true, recurses := true, apart := false, narrowed := true }
def VarsNamesUptoSaid : Prop := varsNamesUptoRow.holds Tryz.pinned (OpenSpec.upto varsNamesSpec)

/-- 'vitrinelaw30.VarsCycles', WHERE WHAT IT READS IS OF BULK AT MOST 1048576: true; the input reads as it did. -/
def varsCyclesUptoRow : OpenClaim := { program := "ytnmlodkomklpfaagreat", sum := "c0bdd00ebe51480e4f4dd9b47501ff43246fe536b879fcfe1c451cb08f0ced75", func := "vitrine/vitrinelaw30.VarsCycles", spec := "varsCycles", unfollowed := true, recurses := true, loops := true, apart := false, narrowed := true }
def VarsCyclesUptoSaid : Prop := varsCyclesUptoRow.holds Tryz.pinned (OpenSpec.upto varsCyclesSpec)

/-- 'vitrinelaw30.VarsOwn', WHERE WHAT IT READS IS OF BULK AT MOST 1048576: true; the input reads as it did. -/
def varsOwnUptoRow : OpenClaim := { program := "ytnmlodkomklpfaagreat", sum := "c0bdd00ebe51480e4f4dd9b47501ff43246fe536b879fcfe1c451cb08f0ced75", func := "vitrine/vitrinelaw30.VarsOwn", spec := "varsOwn", unfollowed := true, recurses := true, loops := true, apart := false, narrowed := true }
def VarsOwnUptoSaid : Prop := varsOwnUptoRow.holds Tryz.pinned (OpenSpec.upto varsOwnSpec)

end Rows
end Go.Proofs.YtnmlodkomklpfaaGreat
