/-
  No cell of these rows narrows 'for every input' (looked for: loops, veiled, ifaces, maps, wideKeys, modest, calm, conditions, laid).
  DERIVED. THE GIVEN ROWS OF THIS SEAT. 11 by the template 'for every input the law returns true; each argument reads behind the call as it read before'; 0 by the template 'total and deterministic' (their statements: YteandjophamipaaTotals.lean).
  GIVEN WITH THE SEED: the statements are not yours to turn. If you find one false, say at which input.
  Laid BY PROGRAM, IN A SANDBOX (cutbox-rows.mjs): the forced cells as the released guide's own fill.sh prints them over the translation 8c3df74c3404a37d… (all of the seat's roots in one cut). By AI agents, Wed Nov 11 2026. No macro, syntax, notation, axiom, sorry.
-/
import Derived.Test.YteandjophamipaaChecked
import GoSem.Claim
import GoSem.ClaimJoined
import GoSem.ClaimMapViews
import Derived.JoinedTies
import Derived.KernelRfl
namespace Go.Proofs.Yteandjophamipaa
/- THE CELL 'sum', in the pinned program and in every row, IS THE sha256 OF THE DUMP (.gsa) THAT YteandjophamipaaProg.lean LOADS. Nothing in Lean hashes anything: it is a label: what it is worth is what the hold of that sum in a sandbox is worth. -/
noncomputable def Try.pinned : Pinned := { name := "yteandjophamipaa", sum := "8c3df74c3404a37d17af7b3c3e3d74ed82abc79118b70232c3cb88d2dad9124a", checked := Try.checked }
namespace Rows
def none {H : Type} : Left H := { results := [], args := [] }

/-- 'strongboxlaw15.PackMakes': WHATEVER THE INPUT: true; the input reads as it did. -/
def packMakesSpec : ChangeSpec := { name := "packMakes", fn := fun _ => fun
  | [d] => { results := [.lit (.bool true)], args := [d] }
  | _ => none }
def packMakesRow : OpenClaim := { program := "yteandjophamipaa", sum := "8c3df74c3404a37d17af7b3c3e3d74ed82abc79118b70232c3cb88d2dad9124a", func := "strongbox/strongboxlaw15.PackMakes", spec := "packMakes", inPlace := ["internal/abi.NoEscape"], unfollowed := true, recurses := true, apart := false }
def PackMakesSaid : Prop := packMakesRow.holds Try.pinned (OpenSpec.ofChange packMakesSpec)

/-- ITS FALSE NEIGHBOUR: 'it returns false'. Refute it at one input. -/
def packMakesWrong : ChangeSpec := { name := "packMakes", fn := fun _ => fun
  | [d] => { results := [.lit (.bool false)], args := [d] }
  | _ => none }
def PackMakesWrongFalsely : Prop := packMakesRow.holds Try.pinned (OpenSpec.ofChange packMakesWrong)

/-- 'strongboxlaw15.PackReads': WHATEVER THE INPUT: true; the input reads as it did. -/
def packReadsSpec : ChangeSpec := { name := "packReads", fn := fun _ => fun
  | [d] => { results := [.lit (.bool true)], args := [d] }
  | _ => none }
def packReadsRow : OpenClaim := { program := "yteandjophamipaa", sum := "8c3df74c3404a37d17af7b3c3e3d74ed82abc79118b70232c3cb88d2dad9124a", func := "strongbox/strongboxlaw15.PackReads", spec := "packReads", inPlace := ["internal/abi.NoEscape", "internal/bytealg.MakeNoZero"], unfollowed := true, recurses := true, apart := false }
def PackReadsSaid : Prop := packReadsRow.holds Try.pinned (OpenSpec.ofChange packReadsSpec)

/-- ITS FALSE NEIGHBOUR: 'it returns false'. Refute it at one input. -/
def packReadsWrong : ChangeSpec := { name := "packReads", fn := fun _ => fun
  | [d] => { results := [.lit (.bool false)], args := [d] }
  | _ => none }
def PackReadsWrongFalsely : Prop := packReadsRow.holds Try.pinned (OpenSpec.ofChange packReadsWrong)

/-- 'strongboxlaw15.PackNames': WHATEVER THE INPUT: true; the input reads as it did. -/
def packNamesSpec : ChangeSpec := { name := "packNames", fn := fun _ => fun
  | [] => { results := [.lit (.bool true)], args := [] }
  | _ => none }
def packNamesRow : OpenClaim := { program := "yteandjophamipaa", sum := "8c3df74c3404a37d17af7b3c3e3d74ed82abc79118b70232c3cb88d2dad9124a", func := "strongbox/strongboxlaw15.PackNames", spec := "packNames", inPlace := ["internal/abi.NoEscape", "internal/bytealg.MakeNoZero"], unfollowed := true, recurses := true, apart := false }
def PackNamesSaid : Prop := packNamesRow.holds Try.pinned (OpenSpec.ofChange packNamesSpec)

/-- ITS FALSE NEIGHBOUR: 'it returns false'. Refute it at one input. -/
def packNamesWrong : ChangeSpec := { name := "packNames", fn := fun _ => fun
  | [] => { results := [.lit (.bool false)], args := [] }
  | _ => none }
def PackNamesWrongFalsely : Prop := packNamesRow.holds Try.pinned (OpenSpec.ofChange packNamesWrong)

/-- 'strongboxlaw15.PackBack': WHATEVER THE INPUT: true; the input reads as it did. -/
def packBackSpec : ChangeSpec := { name := "packBack", fn := fun _ => fun
  | [d1, d2, d3] => { results := [.lit (.bool true)], args := [d1, d2, d3] }
  | _ => none }
def packBackRow : OpenClaim := { program := "yteandjophamipaa", sum := "8c3df74c3404a37d17af7b3c3e3d74ed82abc79118b70232c3cb88d2dad9124a", func := "strongbox/strongboxlaw15.PackBack", spec := "packBack", inPlace := ["internal/abi.NoEscape", "internal/bytealg.MakeNoZero"], unfollowed := true, recurses := true, apart := false }
def PackBackSaid : Prop := packBackRow.holds Try.pinned (OpenSpec.ofChange packBackSpec)

/-- ITS FALSE NEIGHBOUR: 'it returns false'. Refute it at one input. -/
def packBackWrong : ChangeSpec := { name := "packBack", fn := fun _ => fun
  | [d1, d2, d3] => { results := [.lit (.bool false)], args := [d1, d2, d3] }
  | _ => none }
def PackBackWrongFalsely : Prop := packBackRow.holds Try.pinned (OpenSpec.ofChange packBackWrong)

/-- 'strongboxlaw15.PackLong': WHATEVER THE INPUT: true; the input reads as it did. -/
def packLongSpec : ChangeSpec := { name := "packLong", fn := fun _ => fun
  | [d1, d2] => { results := [.lit (.bool true)], args := [d1, d2] }
  | _ => none }
def packLongRow : OpenClaim := { program := "yteandjophamipaa", sum := "8c3df74c3404a37d17af7b3c3e3d74ed82abc79118b70232c3cb88d2dad9124a", func := "strongbox/strongboxlaw15.PackLong", spec := "packLong", inPlace := ["internal/abi.NoEscape", "internal/bytealg.MakeNoZero"], unfollowed := true, recurses := true, apart := false }
def PackLongSaid : Prop := packLongRow.holds Try.pinned (OpenSpec.ofChange packLongSpec)

/-- ITS FALSE NEIGHBOUR: 'it returns false'. Refute it at one input. -/
def packLongWrong : ChangeSpec := { name := "packLong", fn := fun _ => fun
  | [d1, d2] => { results := [.lit (.bool false)], args := [d1, d2] }
  | _ => none }
def PackLongWrongFalsely : Prop := packLongRow.holds Try.pinned (OpenSpec.ofChange packLongWrong)

/-- 'strongboxlaw15.PackMore': WHATEVER THE INPUT: true; the input reads as it did. -/
def packMoreSpec : ChangeSpec := { name := "packMore", fn := fun _ => fun
  | [d1, d2] => { results := [.lit (.bool true)], args := [d1, d2] }
  | _ => none }
def packMoreRow : OpenClaim := { program := "yteandjophamipaa", sum := "8c3df74c3404a37d17af7b3c3e3d74ed82abc79118b70232c3cb88d2dad9124a", func := "strongbox/strongboxlaw15.PackMore", spec := "packMore", inPlace := ["internal/abi.NoEscape", "internal/bytealg.MakeNoZero"], unfollowed := true, recurses := true, apart := false }
def PackMoreSaid : Prop := packMoreRow.holds Try.pinned (OpenSpec.ofChange packMoreSpec)

/-- ITS FALSE NEIGHBOUR: 'it returns false'. Refute it at one input. -/
def packMoreWrong : ChangeSpec := { name := "packMore", fn := fun _ => fun
  | [d1, d2] => { results := [.lit (.bool false)], args := [d1, d2] }
  | _ => none }
def PackMoreWrongFalsely : Prop := packMoreRow.holds Try.pinned (OpenSpec.ofChange packMoreWrong)

/-- 'strongboxlaw16.PackerTells': WHATEVER THE INPUT: true; the input reads as it did. -/
def packerTellsSpec : ChangeSpec := { name := "packerTells", fn := fun _ => fun
  | [d] => { results := [.lit (.bool true)], args := [d] }
  | _ => none }
def packerTellsRow : OpenClaim := { program := "yteandjophamipaa", sum := "8c3df74c3404a37d17af7b3c3e3d74ed82abc79118b70232c3cb88d2dad9124a", func := "strongbox/strongboxlaw16.PackerTells", spec := "packerTells", inPlace := ["internal/abi.NoEscape"], unfollowed := true, recurses := true, apart := false }
def PackerTellsSaid : Prop := packerTellsRow.holds Try.pinned (OpenSpec.ofChange packerTellsSpec)

/-- ITS FALSE NEIGHBOUR: 'it returns false'. Refute it at one input. -/
def packerTellsWrong : ChangeSpec := { name := "packerTells", fn := fun _ => fun
  | [d] => { results := [.lit (.bool false)], args := [d] }
  | _ => none }
def PackerTellsWrongFalsely : Prop := packerTellsRow.holds Try.pinned (OpenSpec.ofChange packerTellsWrong)

/-- 'strongboxlaw16.PackerNames': WHATEVER THE INPUT: true; the input reads as it did. -/
def packerNamesSpec : ChangeSpec := { name := "packerNames", fn := fun _ => fun
  | [] => { results := [.lit (.bool true)], args := [] }
  | _ => none }
def packerNamesRow : OpenClaim := { program := "yteandjophamipaa", sum := "8c3df74c3404a37d17af7b3c3e3d74ed82abc79118b70232c3cb88d2dad9124a", func := "strongbox/strongboxlaw16.PackerNames", spec := "packerNames", inPlace := ["internal/abi.NoEscape"], unfollowed := true, recurses := true, apart := false }
def PackerNamesSaid : Prop := packerNamesRow.holds Try.pinned (OpenSpec.ofChange packerNamesSpec)

/-- ITS FALSE NEIGHBOUR: 'it returns false'. Refute it at one input. -/
def packerNamesWrong : ChangeSpec := { name := "packerNames", fn := fun _ => fun
  | [] => { results := [.lit (.bool false)], args := [] }
  | _ => none }
def PackerNamesWrongFalsely : Prop := packerNamesRow.holds Try.pinned (OpenSpec.ofChange packerNamesWrong)

/-- 'strongboxlaw16.PackerFirst': WHATEVER THE INPUT: true; the input reads as it did. -/
def packerFirstSpec : ChangeSpec := { name := "packerFirst", fn := fun _ => fun
  | [d1, d2] => { results := [.lit (.bool true)], args := [d1, d2] }
  | _ => none }
def packerFirstRow : OpenClaim := { program := "yteandjophamipaa", sum := "8c3df74c3404a37d17af7b3c3e3d74ed82abc79118b70232c3cb88d2dad9124a", func := "strongbox/strongboxlaw16.PackerFirst", spec := "packerFirst", inPlace := ["internal/abi.NoEscape"], unfollowed := true, recurses := true, apart := false }
def PackerFirstSaid : Prop := packerFirstRow.holds Try.pinned (OpenSpec.ofChange packerFirstSpec)

/-- ITS FALSE NEIGHBOUR: 'it returns false'. Refute it at one input. -/
def packerFirstWrong : ChangeSpec := { name := "packerFirst", fn := fun _ => fun
  | [d1, d2] => { results := [.lit (.bool false)], args := [d1, d2] }
  | _ => none }
def PackerFirstWrongFalsely : Prop := packerFirstRow.holds Try.pinned (OpenSpec.ofChange packerFirstWrong)

/-- 'strongboxlaw16.PackerBytes': WHATEVER THE INPUT: true; the input reads as it did. -/
def packerBytesSpec : ChangeSpec := { name := "packerBytes", fn := fun _ => fun
  | [d] => { results := [.lit (.bool true)], args := [d] }
  | _ => none }
def packerBytesRow : OpenClaim := { program := "yteandjophamipaa", sum := "8c3df74c3404a37d17af7b3c3e3d74ed82abc79118b70232c3cb88d2dad9124a", func := "strongbox/strongboxlaw16.PackerBytes", spec := "packerBytes", inPlace := ["internal/abi.NoEscape"], unfollowed := true, recurses := true, apart := false }
def PackerBytesSaid : Prop := packerBytesRow.holds Try.pinned (OpenSpec.ofChange packerBytesSpec)

/-- ITS FALSE NEIGHBOUR: 'it returns false'. Refute it at one input. -/
def packerBytesWrong : ChangeSpec := { name := "packerBytes", fn := fun _ => fun
  | [d] => { results := [.lit (.bool false)], args := [d] }
  | _ => none }
def PackerBytesWrongFalsely : Prop := packerBytesRow.holds Try.pinned (OpenSpec.ofChange packerBytesWrong)

/-- 'strongboxlaw16.PackerOnce': WHATEVER THE INPUT: true; the input reads as it did. -/
def packerOnceSpec : ChangeSpec := { name := "packerOnce", fn := fun _ => fun
  | [d] => { results := [.lit (.bool true)], args := [d] }
  | _ => none }
def packerOnceRow : OpenClaim := { program := "yteandjophamipaa", sum := "8c3df74c3404a37d17af7b3c3e3d74ed82abc79118b70232c3cb88d2dad9124a", func := "strongbox/strongboxlaw16.PackerOnce", spec := "packerOnce", inPlace := ["internal/abi.NoEscape", "internal/bytealg.MakeNoZero"], unfollowed := true, recurses := true, apart := false }
def PackerOnceSaid : Prop := packerOnceRow.holds Try.pinned (OpenSpec.ofChange packerOnceSpec)

/-- ITS FALSE NEIGHBOUR: 'it returns false'. Refute it at one input. -/
def packerOnceWrong : ChangeSpec := { name := "packerOnce", fn := fun _ => fun
  | [d] => { results := [.lit (.bool false)], args := [d] }
  | _ => none }
def PackerOnceWrongFalsely : Prop := packerOnceRow.holds Try.pinned (OpenSpec.ofChange packerOnceWrong)

/- THE SECOND FORM. 'bulk': how many values and letters a reading holds, each counted each time it is reached (what is shared counts as often as it is met; a slice's spare places count too). A statement '..UptoSaid' is the law's where the arguments, and the package variables that the reading takes, are together of bulk at most 1048576: NARROWER than '..Said'. Prove '..Said' where nothing that the law and all that it calls make is longer than what came in: it says more and counts as full. Else prove '..UptoSaid'. A law counts once. -/
mutual
def uptoBulk {H : Type} : DataW H → Nat
  | .lit (.string bytes) => bytes.length + 1
  | .lit _ => 1
  | .nil => 1
  | .ptr d => uptoBulk d + 1
  | .slice elems spare => uptoBulkAll elems + uptoBulkAll spare + 1
  | .agg parts => uptoBulkAll parts + 1
  | .iface _ d => uptoBulk d + 1
  | .map entries => uptoBulkEntries entries + 1
  | .held _ => 1
def uptoBulkAll {H : Type} : List (DataW H) → Nat
  | [] => 0
  | d :: r => uptoBulk d + uptoBulkAll r
def uptoBulkEntries {H : Type} : List (Lit × DataW H) → Nat
  | [] => 0
  | x :: r => uptoBulkEntry x + uptoBulkEntries r
def uptoBulkEntry {H : Type} : Lit × DataW H → Nat
  | (.string bytes, d) => bytes.length + uptoBulk d + 1
  | (_, d) => uptoBulk d + 1
 end
def uptoSmall : (H : Type) → List (DataW H) → Bool := fun _ ds => decide (uptoBulkAll ds ≤ 1048576)
def OpenSpec.upto (s : _root_.Go.ChangeSpec) : _root_.Go.OpenSpec := { _root_.Go.OpenSpec.ofChange s with cond := some uptoSmall }

/-- 'strongboxlaw15.PackMakes', WHERE WHAT IT READS IS OF BULK AT MOST 1048576: true; the input reads as it did. -/
def packMakesUptoRow : OpenClaim := { program := "yteandjophamipaa", sum := "8c3df74c3404a37d17af7b3c3e3d74ed82abc79118b70232c3cb88d2dad9124a", func := "strongbox/strongboxlaw15.PackMakes", spec := "packMakes", inPlace := ["internal/abi.NoEscape"], unfollowed := true, recurses := true, apart := false, narrowed := true }
def PackMakesUptoSaid : Prop := packMakesUptoRow.holds Try.pinned (OpenSpec.upto packMakesSpec)

/-- 'strongboxlaw15.PackReads', WHERE WHAT IT READS IS OF BULK AT MOST 1048576: true; the input reads as it did. -/
def packReadsUptoRow : OpenClaim := { program := "yteandjophamipaa", sum := "8c3df74c3404a37d17af7b3c3e3d74ed82abc79118b70232c3cb88d2dad9124a", func := "strongbox/strongboxlaw15.PackReads", spec := "packReads", inPlace := ["internal/abi.NoEscape", "internal/bytealg.MakeNoZero"], unfollowed := true, recurses := true, apart := false, narrowed := true }
def PackReadsUptoSaid : Prop := packReadsUptoRow.holds Try.pinned (OpenSpec.upto packReadsSpec)

/-- 'strongboxlaw15.PackNames', WHERE WHAT IT READS IS OF BULK AT MOST 1048576: true; the input reads as it did. -/
def packNamesUptoRow : OpenClaim := { program := "yteandjophamipaa", sum := "8c3df74c3404a37d17af7b3c3e3d74ed82abc79118b70232c3cb88d2dad9124a", func := "strongbox/strongboxlaw15.PackNames", spec := "packNames", inPlace := ["internal/abi.NoEscape", "internal/bytealg.MakeNoZero"], unfollowed := true, recurses := true, apart := false, narrowed := true }
def PackNamesUptoSaid : Prop := packNamesUptoRow.holds Try.pinned (OpenSpec.upto packNamesSpec)

/-- 'strongboxlaw15.PackBack', WHERE WHAT IT READS IS OF BULK AT MOST 1048576: true; the input reads as it did. -/
def packBackUptoRow : OpenClaim := { program := "yteandjophamipaa", sum := "8c3df74c3404a37d17af7b3c3e3d74ed82abc79118b70232c3cb88d2dad9124a", func := "strongbox/strongboxlaw15.PackBack", spec := "packBack", inPlace := ["internal/abi.NoEscape", "internal/bytealg.MakeNoZero"], unfollowed := true, recurses := true, apart := false, narrowed := true }
def PackBackUptoSaid : Prop := packBackUptoRow.holds Try.pinned (OpenSpec.upto packBackSpec)

/-- 'strongboxlaw15.PackLong', WHERE WHAT IT READS IS OF BULK AT MOST 1048576: true; the input reads as it did. -/
def packLongUptoRow : OpenClaim := { program := "yteandjophamipaa", sum := "8c3df74c3404a37d17af7b3c3e3d74ed82abc79118b70232c3cb88d2dad9124a", func := "strongbox/strongboxlaw15.PackLong", spec := "packLong", inPlace := ["internal/abi.NoEscape", "internal/bytealg.MakeNoZero"], unfollowed := true, recurses := true, apart := false, narrowed := true }
def PackLongUptoSaid : Prop := packLongUptoRow.holds Try.pinned (OpenSpec.upto packLongSpec)

/-- 'strongboxlaw15.PackMore', WHERE WHAT IT READS IS OF BULK AT MOST 1048576: true; the input reads as it did. -/
def packMoreUptoRow : OpenClaim := { program := "yteandjophamipaa", sum := "8c3df74c3404a37d17af7b3c3e3d74ed82abc79118b70232c3cb88d2dad9124a", func := "strongbox/strongboxlaw15.PackMore", spec := "packMore", inPlace := ["internal/abi.NoEscape", "internal/bytealg.MakeNoZero"], unfollowed := true, recurses := true, apart := false, narrowed := true }
def PackMoreUptoSaid : Prop := packMoreUptoRow.holds Try.pinned (OpenSpec.upto packMoreSpec)

/-- 'strongboxlaw16.PackerTells', WHERE WHAT IT READS IS OF BULK AT MOST 1048576: true; the input reads as it did. -/
def packerTellsUptoRow : OpenClaim := { program := "yteandjophamipaa", sum := "8c3df74c3404a37d17af7b3c3e3d74ed82abc79118b70232c3cb88d2dad9124a", func := "strongbox/strongboxlaw16.PackerTells", spec := "packerTells", inPlace := ["internal/abi.NoEscape"], unfollowed := true, recurses := true, apart := false, narrowed := true }
def PackerTellsUptoSaid : Prop := packerTellsUptoRow.holds Try.pinned (OpenSpec.upto packerTellsSpec)

/-- 'strongboxlaw16.PackerNames', WHERE WHAT IT READS IS OF BULK AT MOST 1048576: true; the input reads as it did. -/
def packerNamesUptoRow : OpenClaim := { program := "yteandjophamipaa", sum := "8c3df74c3404a37d17af7b3c3e3d74ed82abc79118b70232c3cb88d2dad9124a", func := "strongbox/strongboxlaw16.PackerNames", spec := "packerNames", inPlace := ["internal/abi.NoEscape"], unfollowed := true, recurses := true, apart := false, narrowed := true }
def PackerNamesUptoSaid : Prop := packerNamesUptoRow.holds Try.pinned (OpenSpec.upto packerNamesSpec)

/-- 'strongboxlaw16.PackerFirst', WHERE WHAT IT READS IS OF BULK AT MOST 1048576: true; the input reads as it did. -/
def packerFirstUptoRow : OpenClaim := { program := "yteandjophamipaa", sum := "8c3df74c3404a37d17af7b3c3e3d74ed82abc79118b70232c3cb88d2dad9124a", func := "strongbox/strongboxlaw16.PackerFirst", spec := "packerFirst", inPlace := ["internal/abi.NoEscape"], unfollowed := true, recurses := true, apart := false, narrowed := true }
def PackerFirstUptoSaid : Prop := packerFirstUptoRow.holds Try.pinned (OpenSpec.upto packerFirstSpec)

/-- 'strongboxlaw16.PackerBytes', WHERE WHAT IT READS IS OF BULK AT MOST 1048576: true; the input reads as it did. -/
def packerBytesUptoRow : OpenClaim := { program := "yteandjophamipaa", sum := "8c3df74c3404a37d17af7b3c3e3d74ed82abc79118b70232c3cb88d2dad9124a", func := "strongbox/strongboxlaw16.PackerBytes", spec := "packerBytes", inPlace := ["internal/abi.NoEscape"], unfollowed := true, recurses := true, apart := false, narrowed := true }
def PackerBytesUptoSaid : Prop := packerBytesUptoRow.holds Try.pinned (OpenSpec.upto packerBytesSpec)

/-- 'strongboxlaw16.PackerOnce', WHERE WHAT IT READS IS OF BULK AT MOST 1048576: true; the input reads as it did. -/
def packerOnceUptoRow : OpenClaim := { program := "yteandjophamipaa", sum := "8c3df74c3404a37d17af7b3c3e3d74ed82abc79118b70232c3cb88d2dad9124a", func := "strongbox/strongboxlaw16.PackerOnce", spec := "packerOnce", inPlace := ["internal/abi.NoEscape", "internal/bytealg.MakeNoZero"], unfollowed := true, recurses := true, apart := false, narrowed := true }
def PackerOnceUptoSaid : Prop := packerOnceUptoRow.holds Try.pinned (OpenSpec.upto packerOnceSpec)

end Rows
end Go.Proofs.Yteandjophamipaa
