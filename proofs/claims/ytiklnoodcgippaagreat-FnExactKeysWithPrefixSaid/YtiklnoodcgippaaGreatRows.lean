/-
  No cell of these rows narrows 'for every input' (looked for: loops, veiled, ifaces, maps, wideKeys, modest, calm, conditions, laid).
  DERIVED. THE GIVEN ROWS OF THIS SEAT. 14 by the template 'for every input the law returns true; each argument reads behind the call as it read before'; 0 by the template 'total and deterministic' (their statements: YtiklnoodcgippaaGreatTotals.lean).
  GIVEN WITH THE SEED: the statements are not yours to turn. If you find one false, say at which input.
  Laid BY PROGRAM, IN A SANDBOX (cutbox-rows.mjs): the forced cells as the released guide's own fill.sh prints them over the translation 7a402a5b95a17e77… (all of the seat's roots in one cut). By AI agents, Wed Nov 11 2026. No macro, syntax, notation, axiom, sorry.
-/
import Derived.Test.YtiklnoodcgippaaGreatChecked
import GoSem.Claim
import GoSem.ClaimJoined
import GoSem.ClaimMapViews
import Derived.JoinedTies
import Derived.KernelRfl
namespace Go.Proofs.YtiklnoodcgippaaGreat
/- THE CELL 'sum', in the pinned program and in every row, IS THE sha256 OF THE DUMP (.gsa) THAT YtiklnoodcgippaaGreatProg.lean LOADS. Nothing in Lean hashes anything: it is a label: what it is worth is what the hold of that sum in a sandbox is worth. -/
noncomputable def Tryz.pinned : Pinned := { name := "ytiklnoodcgippaagreat", sum := "7a402a5b95a17e77169d2f23ff2ef4602c187d22e6895d54285a500e6c52434f", checked := Tryz.checked }
namespace Rows
def none {H : Type} : Left H := { results := [], args := [] }

/-- 'laws.FnTablesAdd': WHATEVER THE INPUT: true; the input reads as it did. -/
def fnTablesAddSpec : ChangeSpec := { name := "fnTablesAdd", fn := fun _ => fun
  | [d1, d2] => { results := [.lit (.bool true)], args := [d1, d2] }
  | _ => none }
def fnTablesAddRow : OpenClaim := { program := "ytiklnoodcgippaagreat", sum := "7a402a5b95a17e77169d2f23ff2ef4602c187d22e6895d54285a500e6c52434f", func := "loop.example/g01097/laws.FnTablesAdd", spec := "fnTablesAdd", unfollowed := true, recurses := true, apart := false }
def FnTablesAddSaid : Prop := fnTablesAddRow.holds Tryz.pinned (OpenSpec.ofChange fnTablesAddSpec)

/-- ITS FALSE NEIGHBOUR: 'it returns false'. Refute it at one input. -/
def fnTablesAddWrong : ChangeSpec := { name := "fnTablesAdd", fn := fun _ => fun
  | [d1, d2] => { results := [.lit (.bool false)], args := [d1, d2] }
  | _ => none }
def FnTablesAddWrongFalsely : Prop := fnTablesAddRow.holds Tryz.pinned (OpenSpec.ofChange fnTablesAddWrong)

/-- 'laws.FnTablesByPeeling': WHATEVER THE INPUT: true; the input reads as it did. -/
def fnTablesByPeelingSpec : ChangeSpec := { name := "fnTablesByPeeling", fn := fun _ => fun
  | [d1, d2] => { results := [.lit (.bool true)], args := [d1, d2] }
  | _ => none }
def fnTablesByPeelingRow : OpenClaim := { program := "ytiklnoodcgippaagreat", sum := "7a402a5b95a17e77169d2f23ff2ef4602c187d22e6895d54285a500e6c52434f", func := "loop.example/g01097/laws.FnTablesByPeeling", spec := "fnTablesByPeeling", unfollowed := true, recurses := true, apart := false }
def FnTablesByPeelingSaid : Prop := fnTablesByPeelingRow.holds Tryz.pinned (OpenSpec.ofChange fnTablesByPeelingSpec)

/-- ITS FALSE NEIGHBOUR: 'it returns false'. Refute it at one input. -/
def fnTablesByPeelingWrong : ChangeSpec := { name := "fnTablesByPeeling", fn := fun _ => fun
  | [d1, d2] => { results := [.lit (.bool false)], args := [d1, d2] }
  | _ => none }
def FnTablesByPeelingWrongFalsely : Prop := fnTablesByPeelingRow.holds Tryz.pinned (OpenSpec.ofChange fnTablesByPeelingWrong)

/-- 'laws.FnSystemsJoin': WHATEVER THE INPUT: true; the input reads as it did. -/
def fnSystemsJoinSpec : ChangeSpec := { name := "fnSystemsJoin", fn := fun _ => fun
  | [d1, d2] => { results := [.lit (.bool true)], args := [d1, d2] }
  | _ => none }
def fnSystemsJoinRow : OpenClaim := { program := "ytiklnoodcgippaagreat", sum := "7a402a5b95a17e77169d2f23ff2ef4602c187d22e6895d54285a500e6c52434f", func := "loop.example/g01097/laws.FnSystemsJoin", spec := "fnSystemsJoin", unfollowed := true, recurses := true, apart := false }
def FnSystemsJoinSaid : Prop := fnSystemsJoinRow.holds Tryz.pinned (OpenSpec.ofChange fnSystemsJoinSpec)

/-- ITS FALSE NEIGHBOUR: 'it returns false'. Refute it at one input. -/
def fnSystemsJoinWrong : ChangeSpec := { name := "fnSystemsJoin", fn := fun _ => fun
  | [d1, d2] => { results := [.lit (.bool false)], args := [d1, d2] }
  | _ => none }
def FnSystemsJoinWrongFalsely : Prop := fnSystemsJoinRow.holds Tryz.pinned (OpenSpec.ofChange fnSystemsJoinWrong)

/-- 'laws.FnTablesBySolving': WHATEVER THE INPUT: true; the input reads as it did. -/
def fnTablesBySolvingSpec : ChangeSpec := { name := "fnTablesBySolving", fn := fun _ => fun
  | [d1, d2] => { results := [.lit (.bool true)], args := [d1, d2] }
  | _ => none }
def fnTablesBySolvingRow : OpenClaim := { program := "ytiklnoodcgippaagreat", sum := "7a402a5b95a17e77169d2f23ff2ef4602c187d22e6895d54285a500e6c52434f", func := "loop.example/g01097/laws.FnTablesBySolving", spec := "fnTablesBySolving", unfollowed := true, recurses := true, apart := false }
def FnTablesBySolvingSaid : Prop := fnTablesBySolvingRow.holds Tryz.pinned (OpenSpec.ofChange fnTablesBySolvingSpec)

/-- ITS FALSE NEIGHBOUR: 'it returns false'. Refute it at one input. -/
def fnTablesBySolvingWrong : ChangeSpec := { name := "fnTablesBySolving", fn := fun _ => fun
  | [d1, d2] => { results := [.lit (.bool false)], args := [d1, d2] }
  | _ => none }
def FnTablesBySolvingWrongFalsely : Prop := fnTablesBySolvingRow.holds Tryz.pinned (OpenSpec.ofChange fnTablesBySolvingWrong)

/-- 'laws.FnExactParentOf': WHATEVER THE INPUT: true; the input reads as it did. -/
def fnExactParentOfSpec : ChangeSpec := { name := "fnExactParentOf", fn := fun _ => fun
  | [d1, d2] => { results := [.lit (.bool true)], args := [d1, d2] }
  | _ => none }
def fnExactParentOfRow : OpenClaim := { program := "ytiklnoodcgippaagreat", sum := "7a402a5b95a17e77169d2f23ff2ef4602c187d22e6895d54285a500e6c52434f", func := "loop.example/g01097/laws.FnExactParentOf", spec := "fnExactParentOf", inPlace := ["internal/bytealg.abigen_runtime_cmpstring"], unfollowed := true, recurses := true, apart := false }
def FnExactParentOfSaid : Prop := fnExactParentOfRow.holds Tryz.pinned (OpenSpec.ofChange fnExactParentOfSpec)

/-- ITS FALSE NEIGHBOUR: 'it returns false'. Refute it at one input. -/
def fnExactParentOfWrong : ChangeSpec := { name := "fnExactParentOf", fn := fun _ => fun
  | [d1, d2] => { results := [.lit (.bool false)], args := [d1, d2] }
  | _ => none }
def FnExactParentOfWrongFalsely : Prop := fnExactParentOfRow.holds Tryz.pinned (OpenSpec.ofChange fnExactParentOfWrong)

/-- 'laws.FnExactChildOf': WHATEVER THE INPUT: true; the input reads as it did. -/
def fnExactChildOfSpec : ChangeSpec := { name := "fnExactChildOf", fn := fun _ => fun
  | [d1, d2, d3] => { results := [.lit (.bool true)], args := [d1, d2, d3] }
  | _ => none }
def fnExactChildOfRow : OpenClaim := { program := "ytiklnoodcgippaagreat", sum := "7a402a5b95a17e77169d2f23ff2ef4602c187d22e6895d54285a500e6c52434f", func := "loop.example/g01097/laws.FnExactChildOf", spec := "fnExactChildOf", inPlace := ["internal/bytealg.abigen_runtime_cmpstring"], unfollowed := true, recurses := true, apart := false }
def FnExactChildOfSaid : Prop := fnExactChildOfRow.holds Tryz.pinned (OpenSpec.ofChange fnExactChildOfSpec)

/-- ITS FALSE NEIGHBOUR: 'it returns false'. Refute it at one input. -/
def fnExactChildOfWrong : ChangeSpec := { name := "fnExactChildOf", fn := fun _ => fun
  | [d1, d2, d3] => { results := [.lit (.bool false)], args := [d1, d2, d3] }
  | _ => none }
def FnExactChildOfWrongFalsely : Prop := fnExactChildOfRow.holds Tryz.pinned (OpenSpec.ofChange fnExactChildOfWrong)

/-- 'laws.FnExactTrieIndex': WHATEVER THE INPUT: true; the input reads as it did. -/
def fnExactTrieIndexSpec : ChangeSpec := { name := "fnExactTrieIndex", fn := fun _ => fun
  | [d1, d2] => { results := [.lit (.bool true)], args := [d1, d2] }
  | _ => none }
def fnExactTrieIndexRow : OpenClaim := { program := "ytiklnoodcgippaagreat", sum := "7a402a5b95a17e77169d2f23ff2ef4602c187d22e6895d54285a500e6c52434f", func := "loop.example/g01097/laws.FnExactTrieIndex", spec := "fnExactTrieIndex", inPlace := ["internal/bytealg.abigen_runtime_cmpstring"], unfollowed := true, recurses := true, apart := false }
def FnExactTrieIndexSaid : Prop := fnExactTrieIndexRow.holds Tryz.pinned (OpenSpec.ofChange fnExactTrieIndexSpec)

/-- ITS FALSE NEIGHBOUR: 'it returns false'. Refute it at one input. -/
def fnExactTrieIndexWrong : ChangeSpec := { name := "fnExactTrieIndex", fn := fun _ => fun
  | [d1, d2] => { results := [.lit (.bool false)], args := [d1, d2] }
  | _ => none }
def FnExactTrieIndexWrongFalsely : Prop := fnExactTrieIndexRow.holds Tryz.pinned (OpenSpec.ofChange fnExactTrieIndexWrong)

/-- 'laws.FnExactTrieRank': WHATEVER THE INPUT: true; the input reads as it did. -/
def fnExactTrieRankSpec : ChangeSpec := { name := "fnExactTrieRank", fn := fun _ => fun
  | [d1, d2] => { results := [.lit (.bool true)], args := [d1, d2] }
  | _ => none }
def fnExactTrieRankRow : OpenClaim := { program := "ytiklnoodcgippaagreat", sum := "7a402a5b95a17e77169d2f23ff2ef4602c187d22e6895d54285a500e6c52434f", func := "loop.example/g01097/laws.FnExactTrieRank", spec := "fnExactTrieRank", inPlace := ["internal/bytealg.abigen_runtime_cmpstring"], unfollowed := true, recurses := true, apart := false }
def FnExactTrieRankSaid : Prop := fnExactTrieRankRow.holds Tryz.pinned (OpenSpec.ofChange fnExactTrieRankSpec)

/-- ITS FALSE NEIGHBOUR: 'it returns false'. Refute it at one input. -/
def fnExactTrieRankWrong : ChangeSpec := { name := "fnExactTrieRank", fn := fun _ => fun
  | [d1, d2] => { results := [.lit (.bool false)], args := [d1, d2] }
  | _ => none }
def FnExactTrieRankWrongFalsely : Prop := fnExactTrieRankRow.holds Tryz.pinned (OpenSpec.ofChange fnExactTrieRankWrong)

/-- 'laws.FnExactTrieKeys': WHATEVER THE INPUT: true; the input reads as it did. -/
def fnExactTrieKeysSpec : ChangeSpec := { name := "fnExactTrieKeys", fn := fun _ => fun
  | [d] => { results := [.lit (.bool true)], args := [d] }
  | _ => none }
def fnExactTrieKeysRow : OpenClaim := { program := "ytiklnoodcgippaagreat", sum := "7a402a5b95a17e77169d2f23ff2ef4602c187d22e6895d54285a500e6c52434f", func := "loop.example/g01097/laws.FnExactTrieKeys", spec := "fnExactTrieKeys", inPlace := ["internal/bytealg.abigen_runtime_cmpstring"], unfollowed := true, recurses := true, apart := false }
def FnExactTrieKeysSaid : Prop := fnExactTrieKeysRow.holds Tryz.pinned (OpenSpec.ofChange fnExactTrieKeysSpec)

/-- ITS FALSE NEIGHBOUR: 'it returns false'. Refute it at one input. -/
def fnExactTrieKeysWrong : ChangeSpec := { name := "fnExactTrieKeys", fn := fun _ => fun
  | [d] => { results := [.lit (.bool false)], args := [d] }
  | _ => none }
def FnExactTrieKeysWrongFalsely : Prop := fnExactTrieKeysRow.holds Tryz.pinned (OpenSpec.ofChange fnExactTrieKeysWrong)

/-- 'laws.FnExactKeysWithPrefix': WHATEVER THE INPUT: true; the input reads as it did. -/
def fnExactKeysWithPrefixSpec : ChangeSpec := { name := "fnExactKeysWithPrefix", fn := fun _ => fun
  | [d1, d2] => { results := [.lit (.bool true)], args := [d1, d2] }
  | _ => none }
def fnExactKeysWithPrefixRow : OpenClaim := { program := "ytiklnoodcgippaagreat", sum := "7a402a5b95a17e77169d2f23ff2ef4602c187d22e6895d54285a500e6c52434f", func := "loop.example/g01097/laws.FnExactKeysWithPrefix", spec := "fnExactKeysWithPrefix", inPlace := ["internal/bytealg.abigen_runtime_cmpstring"], unfollowed := true, recurses := true, apart := false }
def FnExactKeysWithPrefixSaid : Prop := fnExactKeysWithPrefixRow.holds Tryz.pinned (OpenSpec.ofChange fnExactKeysWithPrefixSpec)

/-- ITS FALSE NEIGHBOUR: 'it returns false'. Refute it at one input. -/
def fnExactKeysWithPrefixWrong : ChangeSpec := { name := "fnExactKeysWithPrefix", fn := fun _ => fun
  | [d1, d2] => { results := [.lit (.bool false)], args := [d1, d2] }
  | _ => none }
def FnExactKeysWithPrefixWrongFalsely : Prop := fnExactKeysWithPrefixRow.holds Tryz.pinned (OpenSpec.ofChange fnExactKeysWithPrefixWrong)

/-- 'laws.FnTrieIsWalked': WHATEVER THE INPUT: true; the input reads as it did. -/
def fnTrieIsWalkedSpec : ChangeSpec := { name := "fnTrieIsWalked", fn := fun _ => fun
  | [d1, d2] => { results := [.lit (.bool true)], args := [d1, d2] }
  | _ => none }
def fnTrieIsWalkedRow : OpenClaim := { program := "ytiklnoodcgippaagreat", sum := "7a402a5b95a17e77169d2f23ff2ef4602c187d22e6895d54285a500e6c52434f", func := "loop.example/g01097/laws.FnTrieIsWalked", spec := "fnTrieIsWalked", inPlace := ["internal/bytealg.abigen_runtime_cmpstring"], unfollowed := true, recurses := true, apart := false }
def FnTrieIsWalkedSaid : Prop := fnTrieIsWalkedRow.holds Tryz.pinned (OpenSpec.ofChange fnTrieIsWalkedSpec)

/-- ITS FALSE NEIGHBOUR: 'it returns false'. Refute it at one input. -/
def fnTrieIsWalkedWrong : ChangeSpec := { name := "fnTrieIsWalked", fn := fun _ => fun
  | [d1, d2] => { results := [.lit (.bool false)], args := [d1, d2] }
  | _ => none }
def FnTrieIsWalkedWrongFalsely : Prop := fnTrieIsWalkedRow.holds Tryz.pinned (OpenSpec.ofChange fnTrieIsWalkedWrong)

/-- 'laws.FnTrieKeepsItsKeys': WHATEVER THE INPUT: true; the input reads as it did. -/
def fnTrieKeepsItsKeysSpec : ChangeSpec := { name := "fnTrieKeepsItsKeys", fn := fun _ => fun
  | [d1, d2] => { results := [.lit (.bool true)], args := [d1, d2] }
  | _ => none }
def fnTrieKeepsItsKeysRow : OpenClaim := { program := "ytiklnoodcgippaagreat", sum := "7a402a5b95a17e77169d2f23ff2ef4602c187d22e6895d54285a500e6c52434f", func := "loop.example/g01097/laws.FnTrieKeepsItsKeys", spec := "fnTrieKeepsItsKeys", inPlace := ["internal/bytealg.abigen_runtime_cmpstring"], unfollowed := true, recurses := true, apart := false }
def FnTrieKeepsItsKeysSaid : Prop := fnTrieKeepsItsKeysRow.holds Tryz.pinned (OpenSpec.ofChange fnTrieKeepsItsKeysSpec)

/-- ITS FALSE NEIGHBOUR: 'it returns false'. Refute it at one input. -/
def fnTrieKeepsItsKeysWrong : ChangeSpec := { name := "fnTrieKeepsItsKeys", fn := fun _ => fun
  | [d1, d2] => { results := [.lit (.bool false)], args := [d1, d2] }
  | _ => none }
def FnTrieKeepsItsKeysWrongFalsely : Prop := fnTrieKeepsItsKeysRow.holds Tryz.pinned (OpenSpec.ofChange fnTrieKeepsItsKeysWrong)

/-- 'laws.FnTrieByBits': WHATEVER THE INPUT: true; the input reads as it did. -/
def fnTrieByBitsSpec : ChangeSpec := { name := "fnTrieByBits", fn := fun _ => fun
  | [d1, d2] => { results := [.lit (.bool true)], args := [d1, d2] }
  | _ => none }
def fnTrieByBitsRow : OpenClaim := { program := "ytiklnoodcgippaagreat", sum := "7a402a5b95a17e77169d2f23ff2ef4602c187d22e6895d54285a500e6c52434f", func := "loop.example/g01097/laws.FnTrieByBits", spec := "fnTrieByBits", inPlace := ["internal/bytealg.abigen_runtime_cmpstring"], unfollowed := true, recurses := true, apart := false }
def FnTrieByBitsSaid : Prop := fnTrieByBitsRow.holds Tryz.pinned (OpenSpec.ofChange fnTrieByBitsSpec)

/-- ITS FALSE NEIGHBOUR: 'it returns false'. Refute it at one input. -/
def fnTrieByBitsWrong : ChangeSpec := { name := "fnTrieByBits", fn := fun _ => fun
  | [d1, d2] => { results := [.lit (.bool false)], args := [d1, d2] }
  | _ => none }
def FnTrieByBitsWrongFalsely : Prop := fnTrieByBitsRow.holds Tryz.pinned (OpenSpec.ofChange fnTrieByBitsWrong)

/-- 'laws.FnTrieAndFrontAgree': WHATEVER THE INPUT: true; the input reads as it did. -/
def fnTrieAndFrontAgreeSpec : ChangeSpec := { name := "fnTrieAndFrontAgree", fn := fun _ => fun
  | [d1, d2] => { results := [.lit (.bool true)], args := [d1, d2] }
  | _ => none }
def fnTrieAndFrontAgreeRow : OpenClaim := { program := "ytiklnoodcgippaagreat", sum := "7a402a5b95a17e77169d2f23ff2ef4602c187d22e6895d54285a500e6c52434f", func := "loop.example/g01097/laws.FnTrieAndFrontAgree", spec := "fnTrieAndFrontAgree", inPlace := ["internal/bytealg.abigen_runtime_cmpstring"], unfollowed := true, recurses := true, apart := false }
def FnTrieAndFrontAgreeSaid : Prop := fnTrieAndFrontAgreeRow.holds Tryz.pinned (OpenSpec.ofChange fnTrieAndFrontAgreeSpec)

/-- ITS FALSE NEIGHBOUR: 'it returns false'. Refute it at one input. -/
def fnTrieAndFrontAgreeWrong : ChangeSpec := { name := "fnTrieAndFrontAgree", fn := fun _ => fun
  | [d1, d2] => { results := [.lit (.bool false)], args := [d1, d2] }
  | _ => none }
def FnTrieAndFrontAgreeWrongFalsely : Prop := fnTrieAndFrontAgreeRow.holds Tryz.pinned (OpenSpec.ofChange fnTrieAndFrontAgreeWrong)

/- THE SECOND FORM. 'bulk': how many values and letters a reading holds, each counted each time it is reached (what is shared counts as often as it is met; a slice's spare places count too). A statement '..UptoSaid' is the law's where the arguments, and the package variables that the reading takes, are together of bulk at most 1048576: NARROWER than '..Said'. Prove '..Said' where nothing that the law and all that it calls make is longer than what came in: it says more and counts as full. Else prove '..UptoSaid'. A law counts once. -/
mutual
def uptoBulk {H : Type} : DataW H → Nat
  | .lit (.string bytes) => bytes.length + 1
  | .lit _ => 1
  | .nil => 1
  | .ptr d => uptoBulk d + 1
  | .slice elems spare => uptoBulkAll elems + uptoBulkAll spare + 1
  | .agg parts => uptoBulkAll parts + 1
  | .iface _ d => uptoBulk d + 1
  | .map entries => uptoBulkEntries entries + 1
  | .held _ => 1
def uptoBulkAll {H : Type} : List (DataW H) → Nat
  | [] => 0
  | d :: r => uptoBulk d + uptoBulkAll r
def uptoBulkEntries {H : Type} : List (Lit × DataW H) → Nat
  | [] => 0
  | x :: r => uptoBulkEntry x + uptoBulkEntries r
def uptoBulkEntry {H : Type} : Lit × DataW H → Nat
  | (.string bytes, d) => bytes.length + uptoBulk d + 1
  | (_, d) => uptoBulk d + 1
 end
def uptoSmall : (H : Type) → List (DataW H) → Bool := fun _ ds => decide (uptoBulkAll ds ≤ 1048576)
def OpenSpec.upto (s : _root_.Go.ChangeSpec) : _root_.Go.OpenSpec := { _root_.Go.OpenSpec.ofChange s with cond := some uptoSmall }

/-- 'laws.FnTablesAdd', WHERE WHAT IT READS IS OF BULK AT MOST 1048576: true; the input reads as it did. -/
def fnTablesAddUptoRow : OpenClaim := { program := "ytiklnoodcgippaagreat", sum := "7a402a5b95a17e77169d2f23ff2ef4602c187d22e6895d54285a500e6c52434f", func := "loop.example/g01097/laws.FnTablesAdd", spec := "fnTablesAdd", unfollowed := true, recurses := true, apart := false, narrowed := true }
def FnTablesAddUptoSaid : Prop := fnTablesAddUptoRow.holds Tryz.pinned (OpenSpec.upto fnTablesAddSpec)

/-- 'laws.FnTablesByPeeling', WHERE WHAT IT READS IS OF BULK AT MOST 1048576: true; the input reads as it did. -/
def fnTablesByPeelingUptoRow : OpenClaim := { program := "ytiklnoodcgippaagreat", sum := "7a402a5b95a17e77169d2f23ff2ef4602c187d22e6895d54285a500e6c52434f", func := "loop.example/g01097/laws.FnTablesByPeeling", spec := "fnTablesByPeeling", unfollowed := true, recurses := true, apart := false, narrowed := true }
def FnTablesByPeelingUptoSaid : Prop := fnTablesByPeelingUptoRow.holds Tryz.pinned (OpenSpec.upto fnTablesByPeelingSpec)

/-- 'laws.FnSystemsJoin', WHERE WHAT IT READS IS OF BULK AT MOST 1048576: true; the input reads as it did. -/
def fnSystemsJoinUptoRow : OpenClaim := { program := "ytiklnoodcgippaagreat", sum := "7a402a5b95a17e77169d2f23ff2ef4602c187d22e6895d54285a500e6c52434f", func := "loop.example/g01097/laws.FnSystemsJoin", spec := "fnSystemsJoin", unfollowed := true, recurses := true, apart := false, narrowed := true }
def FnSystemsJoinUptoSaid : Prop := fnSystemsJoinUptoRow.holds Tryz.pinned (OpenSpec.upto fnSystemsJoinSpec)

/-- 'laws.FnTablesBySolving', WHERE WHAT IT READS IS OF BULK AT MOST 1048576: true; the input reads as it did. -/
def fnTablesBySolvingUptoRow : OpenClaim := { program := "ytiklnoodcgippaagreat", sum := "7a402a5b95a17e77169d2f23ff2ef4602c187d22e6895d54285a500e6c52434f", func := "loop.example/g01097/laws.FnTablesBySolving", spec := "fnTablesBySolving", unfollowed := true, recurses := true, apart := false, narrowed := true }
def FnTablesBySolvingUptoSaid : Prop := fnTablesBySolvingUptoRow.holds Tryz.pinned (OpenSpec.upto fnTablesBySolvingSpec)

/-- 'laws.FnExactParentOf', WHERE WHAT IT READS IS OF BULK AT MOST 1048576: true; the input reads as it did. -/
def fnExactParentOfUptoRow : OpenClaim := { program := "ytiklnoodcgippaagreat", sum := "7a402a5b95a17e77169d2f23ff2ef4602c187d22e6895d54285a500e6c52434f", func := "loop.example/g01097/laws.FnExactParentOf", spec := "fnExactParentOf", inPlace := ["internal/bytealg.abigen_runtime_cmpstring"], unfollowed := true, recurses := true, apart := false, narrowed := true }
def FnExactParentOfUptoSaid : Prop := fnExactParentOfUptoRow.holds Tryz.pinned (OpenSpec.upto fnExactParentOfSpec)

/-- 'laws.FnExactChildOf', WHERE WHAT IT READS IS OF BULK AT MOST 1048576: true; the input reads as it did. -/
def fnExactChildOfUptoRow : OpenClaim := { program := "ytiklnoodcgippaagreat", sum := "7a402a5b95a17e77169d2f23ff2ef4602c187d22e6895d54285a500e6c52434f", func := "loop.example/g01097/laws.FnExactChildOf", spec := "fnExactChildOf", inPlace := ["internal/bytealg.abigen_runtime_cmpstring"], unfollowed := true, recurses := true, apart := false, narrowed := true }
def FnExactChildOfUptoSaid : Prop := fnExactChildOfUptoRow.holds Tryz.pinned (OpenSpec.upto fnExactChildOfSpec)

/-- 'laws.FnExactTrieIndex', WHERE WHAT IT READS IS OF BULK AT MOST 1048576: true; the input reads as it did. -/
def fnExactTrieIndexUptoRow : OpenClaim := { program := "ytiklnoodcgippaagreat", sum := "7a402a5b95a17e77169d2f23ff2ef4602c187d22e6895d54285a500e6c52434f", func := "loop.example/g01097/laws.FnExactTrieIndex", spec := "fnExactTrieIndex", inPlace := ["internal/bytealg.abigen_runtime_cmpstring"], unfollowed := true, recurses := true, apart := false, narrowed := true }
def FnExactTrieIndexUptoSaid : Prop := fnExactTrieIndexUptoRow.holds Tryz.pinned (OpenSpec.upto fnExactTrieIndexSpec)

/-- 'laws.FnExactTrieRank', WHERE WHAT IT READS IS OF BULK AT MOST 1048576: true; the input reads as it did. -/
def fnExactTrieRankUptoRow : OpenClaim := { program := "ytiklnoodcgippaagreat", sum := "7a402a5b95a17e77169d2f23ff2ef4602c187d22e6895d54285a500e6c52434f", func := "loop.example/g01097/laws.FnExactTrieRank", spec := "fnExactTrieRank", inPlace := ["internal/bytealg.abigen_runtime_cmpstring"], unfollowed := true, recurses := true, apart := false, narrowed := true }
def FnExactTrieRankUptoSaid : Prop := fnExactTrieRankUptoRow.holds Tryz.pinned (OpenSpec.upto fnExactTrieRankSpec)

/-- 'laws.FnExactTrieKeys', WHERE WHAT IT READS IS OF BULK AT MOST 1048576: true; the input reads as it did. -/
def fnExactTrieKeysUptoRow : OpenClaim := { program := "ytiklnoodcgippaagreat", sum := "7a402a5b95a17e77169d2f23ff2ef4602c187d22e6895d54285a500e6c52434f", func := "loop.example/g01097/laws.FnExactTrieKeys", spec := "fnExactTrieKeys", inPlace := ["internal/bytealg.abigen_runtime_cmpstring"], unfollowed := true, recurses := true, apart := false, narrowed := true }
def FnExactTrieKeysUptoSaid : Prop := fnExactTrieKeysUptoRow.holds Tryz.pinned (OpenSpec.upto fnExactTrieKeysSpec)

/-- 'laws.FnExactKeysWithPrefix', WHERE WHAT IT READS IS OF BULK AT MOST 1048576: true; the input reads as it did. -/
def fnExactKeysWithPrefixUptoRow : OpenClaim := { program := "ytiklnoodcgippaagreat", sum := "7a402a5b95a17e77169d2f23ff2ef4602c187d22e6895d54285a500e6c52434f", func := "loop.example/g01097/laws.FnExactKeysWithPrefix", spec := "fnExactKeysWithPrefix", inPlace := ["internal/bytealg.abigen_runtime_cmpstring"], unfollowed := true, recurses := true, apart := false, narrowed := true }
def FnExactKeysWithPrefixUptoSaid : Prop := fnExactKeysWithPrefixUptoRow.holds Tryz.pinned (OpenSpec.upto fnExactKeysWithPrefixSpec)

/-- 'laws.FnTrieIsWalked', WHERE WHAT IT READS IS OF BULK AT MOST 1048576: true; the input reads as it did. -/
def fnTrieIsWalkedUptoRow : OpenClaim := { program := "ytiklnoodcgippaagreat", sum := "7a402a5b95a17e77169d2f23ff2ef4602c187d22e6895d54285a500e6c52434f", func := "loop.example/g01097/laws.FnTrieIsWalked", spec := "fnTrieIsWalked", inPlace := ["internal/bytealg.abigen_runtime_cmpstring"], unfollowed := true, recurses := true, apart := false, narrowed := true }
def FnTrieIsWalkedUptoSaid : Prop := fnTrieIsWalkedUptoRow.holds Tryz.pinned (OpenSpec.upto fnTrieIsWalkedSpec)

/-- 'laws.FnTrieKeepsItsKeys', WHERE WHAT IT READS IS OF BULK AT MOST 1048576: true; the input reads as it did. -/
def fnTrieKeepsItsKeysUptoRow : OpenClaim := { program := "ytiklnoodcgippaagreat", sum := "7a402a5b95a17e77169d2f23ff2ef4602c187d22e6895d54285a500e6c52434f", func := "loop.example/g01097/laws.FnTrieKeepsItsKeys", spec := "fnTrieKeepsItsKeys", inPlace := ["internal/bytealg.abigen_runtime_cmpstring"], unfollowed := true, recurses := true, apart := false, narrowed := true }
def FnTrieKeepsItsKeysUptoSaid : Prop := fnTrieKeepsItsKeysUptoRow.holds Tryz.pinned (OpenSpec.upto fnTrieKeepsItsKeysSpec)

/-- 'laws.FnTrieByBits', WHERE WHAT IT READS IS OF BULK AT MOST 1048576: true; the input reads as it did. -/
def fnTrieByBitsUptoRow : OpenClaim := { program := "ytiklnoodcgippaagreat", sum := "7a402a5b95a17e77169d2f23ff2ef4602c187d22e6895d54285a500e6c52434f", func := "loop.example/g01097/laws.FnTrieByBits", spec := "fnTrieByBits", inPlace := ["internal/bytealg.abigen_runtime_cmpstring"], unfollowed := true, recurses := true, apart := false, narrowed := true }
def FnTrieByBitsUptoSaid : Prop := fnTrieByBitsUptoRow.holds Tryz.pinned (OpenSpec.upto fnTrieByBitsSpec)

/-- 'laws.FnTrieAndFrontAgree', WHERE WHAT IT READS IS OF BULK AT MOST 1048576: true; the input reads as it did. -/
def fnTrieAndFrontAgreeUptoRow : OpenClaim := { program := "ytiklnoodcgippaagreat", sum := "7a402a5b95a17e77169d2f23ff2ef4602c187d22e6895d54285a500e6c52434f", func := "loop.example/g01097/laws.FnTrieAndFrontAgree", spec := "fnTrieAndFrontAgree", inPlace := ["internal/bytealg.abigen_runtime_cmpstring"], unfollowed := true, recurses := true, apart := false, narrowed := true }
def FnTrieAndFrontAgreeUptoSaid : Prop := fnTrieAndFrontAgreeUptoRow.holds Tryz.pinned (OpenSpec.upto fnTrieAndFrontAgreeSpec)

end Rows
end Go.Proofs.YtiklnoodcgippaaGreat
