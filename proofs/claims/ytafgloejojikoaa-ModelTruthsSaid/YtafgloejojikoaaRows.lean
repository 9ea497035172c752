/-
  NARROWER THAN 'FOR EVERY INPUT', by the rows' own cells (each row's printed sentence says how): ModelTruths: loops.
  DERIVED. THE GIVEN ROWS OF THIS SEAT. 2 by the template 'for every input the law returns true; each argument reads behind the call as it read before'; 0 by the template 'total and deterministic' (their statements: YtafgloejojikoaaTotals.lean).
  GIVEN WITH THE SEED: the statements are not yours to turn. If you find one false, say at which input.
  Laid BY PROGRAM, IN A SANDBOX (cutbox-rows.mjs): the forced cells as the released guide's own fill.sh prints them over the translation 1580100d51d25f4b… (all of the seat's roots in one cut). By AI agents, Wed Nov 11 2026. No macro, syntax, notation, axiom, sorry.
-/
import Derived.Test.YtafgloejojikoaaChecked
import GoSem.Claim
import GoSem.ClaimJoined
import GoSem.ClaimMapViews
import Derived.JoinedTies
import Derived.KernelRfl
namespace Go.Proofs.Ytafgloejojikoaa
/- THE CELL 'sum', in the pinned program and in every row, IS THE sha256 OF THE DUMP (.gsa) THAT YtafgloejojikoaaProg.lean LOADS. Nothing in Lean hashes anything: it is a label: what it is worth is what the hold of that sum in a sandbox is worth. -/
noncomputable def Try.pinned : Pinned := { name := "ytafgloejojikoaa", sum := "1580100d51d25f4b8a8ecba637f19eb48dfb2fbe76f71aeda66a33e910336cdf", checked := Try.checked }
namespace Rows
def none {H : Type} : Left H := { results := [], args := [] }

/-- 'whetstonelaw07.NormGrown': WHATEVER THE INPUT: true; the input reads as it did. -/
def normGrownSpec : ChangeSpec := { name := "normGrown", fn := fun _ => fun
  | [d1, d2] => { results := [.lit (.bool true)], args := [d1, d2] }
  | _ => none }
def normGrownRow : OpenClaim := { program := "ytafgloejojikoaa", sum := "1580100d51d25f4b8a8ecba637f19eb48dfb2fbe76f71aeda66a33e910336cdf", func := "whetstone/whetstonelaw07.NormGrown", spec := "normGrown", unfollowed := true, recurses := true, apart := false }
def NormGrownSaid : Prop := normGrownRow.holds Try.pinned (OpenSpec.ofChange normGrownSpec)

/-- ITS FALSE NEIGHBOUR: 'it returns false'. Refute it at one input. -/
def normGrownWrong : ChangeSpec := { name := "normGrown", fn := fun _ => fun
  | [d1, d2] => { results := [.lit (.bool false)], args := [d1, d2] }
  | _ => none }
def NormGrownWrongFalsely : Prop := normGrownRow.holds Try.pinned (OpenSpec.ofChange normGrownWrong)

/-- 'whetstonelaw05.ModelTruths': WHATEVER THE INPUT: true; the input reads as it did. -/
def modelTruthsSpec : ChangeSpec := { name := "modelTruths", fn := fun _ => fun
  | [d1, d2, d3, d4] => { results := [.lit (.bool true)], args := [d1, d2, d3, d4] }
  | _ => none }
def modelTruthsRow : OpenClaim := { program := "ytafgloejojikoaa", sum := "1580100d51d25f4b8a8ecba637f19eb48dfb2fbe76f71aeda66a33e910336cdf", func := "whetstone/whetstonelaw05.ModelTruths", spec := "modelTruths", unfollowed := true, recurses := true, loops := true, apart := false }
def ModelTruthsSaid : Prop := modelTruthsRow.holds Try.pinned (OpenSpec.ofChange modelTruthsSpec)

/-- ITS FALSE NEIGHBOUR: 'it returns false'. Refute it at one input. -/
def modelTruthsWrong : ChangeSpec := { name := "modelTruths", fn := fun _ => fun
  | [d1, d2, d3, d4] => { results := [.lit (.bool false)], args := [d1, d2, d3, d4] }
  | _ => none }
def ModelTruthsWrongFalsely : Prop := modelTruthsRow.holds Try.pinned (OpenSpec.ofChange modelTruthsWrong)

/- THE SECOND FORM. 'bulk': how many values and letters a reading holds, each counted each time it is reached (what is shared counts as often as it is met; a slice's spare places count too). A statement '..UptoSaid' is the law's where the arguments, and the package variables that the reading takes, are together of bulk at most 1048576: NARROWER than '..Said'. Prove '..Said' where nothing that the law and all that it calls make is longer than what came in: it says more and counts as full. Else prove '..UptoSaid'. A law counts once. -/
mutual
def uptoBulk {H : Type} : DataW H → Nat
  | .lit (.string bytes) => bytes.length + 1
  | .lit _ => 1
  | .nil => 1
  | .ptr d => uptoBulk d + 1
  | .slice elems spare => uptoBulkAll elems + uptoBulkAll spare + 1
  | .agg parts => uptoBulkAll parts + 1
  | .iface _ d => uptoBulk d + 1
  | .map entries => uptoBulkEntries entries + 1
  | .held _ => 1
def uptoBulkAll {H : Type} : List (DataW H) → Nat
  | [] => 0
  | d :: r => uptoBulk d + uptoBulkAll r
def uptoBulkEntries {H : Type} : List (Lit × DataW H) → Nat
  | [] => 0
  | x :: r => uptoBulkEntry x + uptoBulkEntries r
def uptoBulkEntry {H : Type} : Lit × DataW H → Nat
  | (.string bytes, d) => bytes.length + uptoBulk d + 1
  | (_, d) => uptoBulk d + 1
 end
def uptoSmall : (H : Type) → List (DataW H) → Bool := fun _ ds => decide (uptoBulkAll ds ≤ 1048576)
def OpenSpec.upto (s : _root_.Go.ChangeSpec) : _root_.Go.OpenSpec := { _root_.Go.OpenSpec.ofChange s with cond := some uptoSmall }

/-- 'whetstonelaw07.NormGrown', WHERE WHAT IT READS IS OF BULK AT MOST 1048576: true; the input reads as it did. -/
def normGrownUptoRow : OpenClaim := { program := "ytafgloejojikoaa", sum := "1580100d51d25f4b8a8ecba637f19eb48dfb2fbe76f71aeda66a33e910336cdf", func := "whetstone/whetstonelaw07.NormGrown", spec := "normGrown", unfollowed := true, recurses := true, apart := false, narrowed := true }
def NormGrownUptoSaid : Prop := normGrownUptoRow.holds Try.pinned (OpenSpec.upto normGrownSpec)

/-- 'whetstonelaw05.ModelTruths', WHERE WHAT IT READS IS OF BULK AT MOST 1048576: true; the input reads as it did. -/
def modelTruthsUptoRow : OpenClaim := { program := "ytafgloejojikoaa", sum := "1580100d51d25f4b8a8ecba637f19eb48dfb2fbe76f71aeda66a33e910336cdf", func := "whetstone/whetstonelaw05.ModelTruths", spec := "modelTruths", unfollowed := true, recurses := true, loops := true, apart := false, narrowed := true }
def ModelTruthsUptoSaid : Prop := modelTruthsUptoRow.holds Try.pinned (OpenSpec.upto modelTruthsSpec)

end Rows
end Go.Proofs.Ytafgloejojikoaa
