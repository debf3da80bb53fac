/-
  NARROWER THAN 'FOR EVERY INPUT', by the rows' own cells (each row's printed sentence says how): MatchMore: loops, laid · MatchFills: loops, laid · MatchWrong: loops, laid · MatchSmall: laid · MatchFill: loops, laid · MatchScope: loops, laid · MatchBack: loops, laid · MatchAlpha: loops, laid · MatchInst: loops, laid.
  DERIVED. THE GIVEN ROWS OF THIS SEAT. 9 by the template 'for every input the law returns true; each argument reads behind the call as it read before'; 0 by the template 'total and deterministic' (their statements: YtokemihbkeddoaaGreatDoorTotals.lean).
  GIVEN WITH THE SEED: the statements are not yours to turn. If you find one false, say at which input.
  Laid BY PROGRAM, IN A SANDBOX (cutbox-rows.mjs): the forced cells as the released guide's own fill.sh prints them over the translation 11d83f78bd52a8ab… (all of the seat's roots in one cut). By AI agents, Wed Nov 11 2026. No macro, syntax, notation, axiom, sorry.
-/
import Derived.Test.YtokemihbkeddoaaGreatDoorChecked
import GoSem.Claim
import GoSem.ClaimJoined
import GoSem.ClaimMapViews
import Derived.JoinedTies
import Derived.KernelRfl
namespace Go.Proofs.YtokemihbkeddoaaGreatDoor
/- THE CELL 'sum', in the pinned program and in every row, IS THE sha256 OF THE DUMP (.gsa) THAT YtokemihbkeddoaaGreatDoorProg.lean LOADS. Nothing in Lean hashes anything: it is a label: what it is worth is what the hold of that sum in a sandbox is worth. -/
noncomputable def Tryz.pinned : Pinned := { name := "ytokemihbkeddoaagreatdoor", sum := "11d83f78bd52a8aba801bf80227e8936e09d875ffdfa5374131e566d9b4aa65d", checked := Tryz.checked }
namespace Rows
def none {H : Type} : Left H := { results := [], args := [] }

/- WHAT THE LISTED PACKAGE-LEVEL VARIABLES READ AS WHEN THE CALL BEGINS. Each datum BY PROGRAM (the guide's laid-datum.mjs) off the statement by which the dump's own 'gosem.cut.vars' lays the variable. In a bare row this is a premise. The card (YtokemihbkeddoaaGreatDoorCards.lean) ties it to the program's text. -/
def laid_math_bits_deBruijn32tab {H : Type} : DataW H := .agg [.lit (.int .u8 0), .lit (.int .u8 1), .lit (.int .u8 28), .lit (.int .u8 2), .lit (.int .u8 29), .lit (.int .u8 14), .lit (.int .u8 24), .lit (.int .u8 3), .lit (.int .u8 30), .lit (.int .u8 22), .lit (.int .u8 20), .lit (.int .u8 15), .lit (.int .u8 25), .lit (.int .u8 17), .lit (.int .u8 4), .lit (.int .u8 8), .lit (.int .u8 31), .lit (.int .u8 27), .lit (.int .u8 13), .lit (.int .u8 23), .lit (.int .u8 21), .lit (.int .u8 19), .lit (.int .u8 16), .lit (.int .u8 7), .lit (.int .u8 26), .lit (.int .u8 12), .lit (.int .u8 18), .lit (.int .u8 6), .lit (.int .u8 11), .lit (.int .u8 5), .lit (.int .u8 10), .lit (.int .u8 9)]
def laid_math_bits_deBruijn64tab {H : Type} : DataW H := .agg [.lit (.int .u8 0), .lit (.int .u8 1), .lit (.int .u8 56), .lit (.int .u8 2), .lit (.int .u8 57), .lit (.int .u8 49), .lit (.int .u8 28), .lit (.int .u8 3), .lit (.int .u8 61), .lit (.int .u8 58), .lit (.int .u8 42), .lit (.int .u8 50), .lit (.int .u8 38), .lit (.int .u8 29), .lit (.int .u8 17), .lit (.int .u8 4), .lit (.int .u8 62), .lit (.int .u8 47), .lit (.int .u8 59), .lit (.int .u8 36), .lit (.int .u8 45), .lit (.int .u8 43), .lit (.int .u8 51), .lit (.int .u8 22), .lit (.int .u8 53), .lit (.int .u8 39), .lit (.int .u8 33), .lit (.int .u8 30), .lit (.int .u8 24), .lit (.int .u8 18), .lit (.int .u8 12), .lit (.int .u8 5), .lit (.int .u8 63), .lit (.int .u8 55), .lit (.int .u8 48), .lit (.int .u8 27), .lit (.int .u8 60), .lit (.int .u8 41), .lit (.int .u8 37), .lit (.int .u8 16), .lit (.int .u8 46), .lit (.int .u8 35), .lit (.int .u8 44), .lit (.int .u8 21), .lit (.int .u8 52), .lit (.int .u8 32), .lit (.int .u8 23), .lit (.int .u8 11), .lit (.int .u8 54), .lit (.int .u8 26), .lit (.int .u8 40), .lit (.int .u8 15), .lit (.int .u8 34), .lit (.int .u8 20), .lit (.int .u8 31), .lit (.int .u8 10), .lit (.int .u8 25), .lit (.int .u8 14), .lit (.int .u8 19), .lit (.int .u8 9), .lit (.int .u8 13), .lit (.int .u8 8), .lit (.int .u8 7), .lit (.int .u8 6)]
def laid_internal_strconv_uint64pow10 {H : Type} : DataW H := .agg [.lit (.int .u64 1), .lit (.int .u64 10), .lit (.int .u64 100), .lit (.int .u64 1000), .lit (.int .u64 10000), .lit (.int .u64 100000), .lit (.int .u64 1000000), .lit (.int .u64 10000000), .lit (.int .u64 100000000), .lit (.int .u64 1000000000), .lit (.int .u64 10000000000), .lit (.int .u64 100000000000), .lit (.int .u64 1000000000000), .lit (.int .u64 10000000000000), .lit (.int .u64 100000000000000), .lit (.int .u64 1000000000000000), .lit (.int .u64 10000000000000000), .lit (.int .u64 100000000000000000), .lit (.int .u64 1000000000000000000), .lit (.int .u64 10000000000000000000)]
def laid_lyceum_syntax_rows {H : Type} : DataW H := .agg [.agg [.lit (.bool false), .lit (.bool false), .lit (.int .u8 0), .lit (.int .i64 0), .lit (.int .i64 0)], .agg [.lit (.bool true), .lit (.bool true), .lit (.int .u8 1), .lit (.int .i64 4), .lit (.int .i64 0)], .agg [.lit (.bool true), .lit (.bool true), .lit (.int .u8 0), .lit (.int .i64 0), .lit (.int .i64 0)], .agg [.lit (.bool true), .lit (.bool true), .lit (.int .u8 0), .lit (.int .i64 0), .lit (.int .i64 1)], .agg [.lit (.bool true), .lit (.bool true), .lit (.int .u8 0), .lit (.int .i64 0), .lit (.int .i64 2)], .agg [.lit (.bool true), .lit (.bool true), .lit (.int .u8 0), .lit (.int .i64 0), .lit (.int .i64 2)], .agg [.lit (.bool true), .lit (.bool true), .lit (.int .u8 0), .lit (.int .i64 0), .lit (.int .i64 2)], .agg [.lit (.bool true), .lit (.bool true), .lit (.int .u8 0), .lit (.int .i64 0), .lit (.int .i64 2)], .agg [.lit (.bool true), .lit (.bool true), .lit (.int .u8 2), .lit (.int .i64 0), .lit (.int .i64 1)], .agg [.lit (.bool true), .lit (.bool true), .lit (.int .u8 2), .lit (.int .i64 0), .lit (.int .i64 1)], .agg [.lit (.bool true), .lit (.bool true), .lit (.int .u8 0), .lit (.int .i64 0), .lit (.int .i64 1)], .agg [.lit (.bool true), .lit (.bool true), .lit (.int .u8 0), .lit (.int .i64 0), .lit (.int .i64 1)], .agg [.lit (.bool true), .lit (.bool true), .lit (.int .u8 0), .lit (.int .i64 0), .lit (.int .i64 1)], .agg [.lit (.bool true), .lit (.bool true), .lit (.int .u8 0), .lit (.int .i64 0), .lit (.int .i64 1)], .agg [.lit (.bool true), .lit (.bool true), .lit (.int .u8 0), .lit (.int .i64 0), .lit (.int .i64 2)], .agg [.lit (.bool false), .lit (.bool true), .lit (.int .u8 3), .lit (.int .i64 0), .lit (.int .i64 0)], .agg [.lit (.bool false), .lit (.bool true), .lit (.int .u8 3), .lit (.int .i64 2), .lit (.int .i64 0)]]

/-- 'lyceumlaw07.MatchMore': WHATEVER THE INPUT: true; the input reads as it did. -/
def matchMoreSpec : ChangeSpec := { name := "matchMore", fn := fun _ => fun
  | [d1, d2] => { results := [.lit (.bool true)], args := [d1, d2] }
  | _ => none }
def matchMoreRow : OpenClaim := { program := "ytokemihbkeddoaagreatdoor", sum := "11d83f78bd52a8aba801bf80227e8936e09d875ffdfa5374131e566d9b4aa65d", func := "lyceum/lyceumlaw07.MatchMore", spec := "matchMore", inPlace := ["internal/bytealg.abigen_runtime_cmpstring"], unfollowed := true, recurses := true, named := ["lyceum/syntax.rows", "internal/strconv.uint64pow10", "math/bits.deBruijn32tab", "math/bits.deBruijn64tab"], loops := true, apart := false, laid := [("math/bits.deBruijn32tab", laid_math_bits_deBruijn32tab), ("math/bits.deBruijn64tab", laid_math_bits_deBruijn64tab), ("internal/strconv.uint64pow10", laid_internal_strconv_uint64pow10), ("lyceum/syntax.rows", laid_lyceum_syntax_rows)] }
def MatchMoreSaid : Prop := matchMoreRow.holds Tryz.pinned (OpenSpec.ofChange matchMoreSpec)

/-- ITS FALSE NEIGHBOUR: 'it returns false'. Refute it at one input. -/
def matchMoreWrong : ChangeSpec := { name := "matchMore", fn := fun _ => fun
  | [d1, d2] => { results := [.lit (.bool false)], args := [d1, d2] }
  | _ => none }
def MatchMoreWrongFalsely : Prop := matchMoreRow.holds Tryz.pinned (OpenSpec.ofChange matchMoreWrong)

/-- 'lyceumlaw07.MatchFills': WHATEVER THE INPUT: true; the input reads as it did. -/
def matchFillsSpec : ChangeSpec := { name := "matchFills", fn := fun _ => fun
  | [d1, d2, d3] => { results := [.lit (.bool true)], args := [d1, d2, d3] }
  | _ => none }
def matchFillsRow : OpenClaim := { program := "ytokemihbkeddoaagreatdoor", sum := "11d83f78bd52a8aba801bf80227e8936e09d875ffdfa5374131e566d9b4aa65d", func := "lyceum/lyceumlaw07.MatchFills", spec := "matchFills", inPlace := ["internal/bytealg.abigen_runtime_cmpstring"], unfollowed := true, recurses := true, named := ["lyceum/syntax.rows", "internal/strconv.uint64pow10", "math/bits.deBruijn32tab", "math/bits.deBruijn64tab"], loops := true, apart := false, laid := [("math/bits.deBruijn32tab", laid_math_bits_deBruijn32tab), ("math/bits.deBruijn64tab", laid_math_bits_deBruijn64tab), ("internal/strconv.uint64pow10", laid_internal_strconv_uint64pow10), ("lyceum/syntax.rows", laid_lyceum_syntax_rows)] }
def MatchFillsSaid : Prop := matchFillsRow.holds Tryz.pinned (OpenSpec.ofChange matchFillsSpec)

/-- ITS FALSE NEIGHBOUR: 'it returns false'. Refute it at one input. -/
def matchFillsWrong : ChangeSpec := { name := "matchFills", fn := fun _ => fun
  | [d1, d2, d3] => { results := [.lit (.bool false)], args := [d1, d2, d3] }
  | _ => none }
def MatchFillsWrongFalsely : Prop := matchFillsRow.holds Tryz.pinned (OpenSpec.ofChange matchFillsWrong)

/-- 'lyceumlaw07.MatchWrong': WHATEVER THE INPUT: true; the input reads as it did. -/
def matchWrongSpec : ChangeSpec := { name := "matchWrong", fn := fun _ => fun
  | [d1, d2, d3] => { results := [.lit (.bool true)], args := [d1, d2, d3] }
  | _ => none }
def matchWrongRow : OpenClaim := { program := "ytokemihbkeddoaagreatdoor", sum := "11d83f78bd52a8aba801bf80227e8936e09d875ffdfa5374131e566d9b4aa65d", func := "lyceum/lyceumlaw07.MatchWrong", spec := "matchWrong", inPlace := ["internal/bytealg.abigen_runtime_cmpstring"], unfollowed := true, recurses := true, named := ["lyceum/syntax.rows", "internal/strconv.uint64pow10", "math/bits.deBruijn32tab", "math/bits.deBruijn64tab"], loops := true, apart := false, laid := [("math/bits.deBruijn32tab", laid_math_bits_deBruijn32tab), ("math/bits.deBruijn64tab", laid_math_bits_deBruijn64tab), ("internal/strconv.uint64pow10", laid_internal_strconv_uint64pow10), ("lyceum/syntax.rows", laid_lyceum_syntax_rows)] }
def MatchWrongSaid : Prop := matchWrongRow.holds Tryz.pinned (OpenSpec.ofChange matchWrongSpec)

/-- ITS FALSE NEIGHBOUR: 'it returns false'. Refute it at one input. -/
def matchWrongWrong : ChangeSpec := { name := "matchWrong", fn := fun _ => fun
  | [d1, d2, d3] => { results := [.lit (.bool false)], args := [d1, d2, d3] }
  | _ => none }
def MatchWrongWrongFalsely : Prop := matchWrongRow.holds Tryz.pinned (OpenSpec.ofChange matchWrongWrong)

/-- 'lyceumlaw07.MatchSmall': WHATEVER THE INPUT: true; the input reads as it did. -/
def matchSmallSpec : ChangeSpec := { name := "matchSmall", fn := fun _ => fun
  | [] => { results := [.lit (.bool true)], args := [] }
  | _ => none }
def matchSmallRow : OpenClaim := { program := "ytokemihbkeddoaagreatdoor", sum := "11d83f78bd52a8aba801bf80227e8936e09d875ffdfa5374131e566d9b4aa65d", func := "lyceum/lyceumlaw07.MatchSmall", spec := "matchSmall", inPlace := ["internal/bytealg.abigen_runtime_cmpstring"], unfollowed := true, recurses := true, named := ["lyceum/syntax.rows", "internal/strconv.uint64pow10", "math/bits.deBruijn32tab", "math/bits.deBruijn64tab"], apart := false, laid := [("math/bits.deBruijn32tab", laid_math_bits_deBruijn32tab), ("math/bits.deBruijn64tab", laid_math_bits_deBruijn64tab), ("internal/strconv.uint64pow10", laid_internal_strconv_uint64pow10), ("lyceum/syntax.rows", laid_lyceum_syntax_rows)] }
def MatchSmallSaid : Prop := matchSmallRow.holds Tryz.pinned (OpenSpec.ofChange matchSmallSpec)

/-- ITS FALSE NEIGHBOUR: 'it returns false'. Refute it at one input. -/
def matchSmallWrong : ChangeSpec := { name := "matchSmall", fn := fun _ => fun
  | [] => { results := [.lit (.bool false)], args := [] }
  | _ => none }
def MatchSmallWrongFalsely : Prop := matchSmallRow.holds Tryz.pinned (OpenSpec.ofChange matchSmallWrong)

/-- 'lyceumlaw07.MatchFill': WHATEVER THE INPUT: true; the input reads as it did. -/
def matchFillSpec : ChangeSpec := { name := "matchFill", fn := fun _ => fun
  | [d1, d2] => { results := [.lit (.bool true)], args := [d1, d2] }
  | _ => none }
def matchFillRow : OpenClaim := { program := "ytokemihbkeddoaagreatdoor", sum := "11d83f78bd52a8aba801bf80227e8936e09d875ffdfa5374131e566d9b4aa65d", func := "lyceum/lyceumlaw07.MatchFill", spec := "matchFill", inPlace := ["internal/bytealg.abigen_runtime_cmpstring"], unfollowed := true, recurses := true, named := ["lyceum/syntax.rows", "internal/strconv.uint64pow10", "math/bits.deBruijn32tab", "math/bits.deBruijn64tab"], loops := true, apart := false, laid := [("math/bits.deBruijn32tab", laid_math_bits_deBruijn32tab), ("math/bits.deBruijn64tab", laid_math_bits_deBruijn64tab), ("internal/strconv.uint64pow10", laid_internal_strconv_uint64pow10), ("lyceum/syntax.rows", laid_lyceum_syntax_rows)] }
def MatchFillSaid : Prop := matchFillRow.holds Tryz.pinned (OpenSpec.ofChange matchFillSpec)

/-- ITS FALSE NEIGHBOUR: 'it returns false'. Refute it at one input. -/
def matchFillWrong : ChangeSpec := { name := "matchFill", fn := fun _ => fun
  | [d1, d2] => { results := [.lit (.bool false)], args := [d1, d2] }
  | _ => none }
def MatchFillWrongFalsely : Prop := matchFillRow.holds Tryz.pinned (OpenSpec.ofChange matchFillWrong)

/-- 'lyceumlaw07.MatchScope': WHATEVER THE INPUT: true; the input reads as it did. -/
def matchScopeSpec : ChangeSpec := { name := "matchScope", fn := fun _ => fun
  | [d1, d2, d3] => { results := [.lit (.bool true)], args := [d1, d2, d3] }
  | _ => none }
def matchScopeRow : OpenClaim := { program := "ytokemihbkeddoaagreatdoor", sum := "11d83f78bd52a8aba801bf80227e8936e09d875ffdfa5374131e566d9b4aa65d", func := "lyceum/lyceumlaw07.MatchScope", spec := "matchScope", inPlace := ["internal/bytealg.abigen_runtime_cmpstring"], unfollowed := true, recurses := true, named := ["lyceum/syntax.rows", "internal/strconv.uint64pow10", "math/bits.deBruijn32tab", "math/bits.deBruijn64tab"], loops := true, apart := false, laid := [("math/bits.deBruijn32tab", laid_math_bits_deBruijn32tab), ("math/bits.deBruijn64tab", laid_math_bits_deBruijn64tab), ("internal/strconv.uint64pow10", laid_internal_strconv_uint64pow10), ("lyceum/syntax.rows", laid_lyceum_syntax_rows)] }
def MatchScopeSaid : Prop := matchScopeRow.holds Tryz.pinned (OpenSpec.ofChange matchScopeSpec)

/-- ITS FALSE NEIGHBOUR: 'it returns false'. Refute it at one input. -/
def matchScopeWrong : ChangeSpec := { name := "matchScope", fn := fun _ => fun
  | [d1, d2, d3] => { results := [.lit (.bool false)], args := [d1, d2, d3] }
  | _ => none }
def MatchScopeWrongFalsely : Prop := matchScopeRow.holds Tryz.pinned (OpenSpec.ofChange matchScopeWrong)

/-- 'lyceumlaw07.MatchBack': WHATEVER THE INPUT: true; the input reads as it did. -/
def matchBackSpec : ChangeSpec := { name := "matchBack", fn := fun _ => fun
  | [d1, d2] => { results := [.lit (.bool true)], args := [d1, d2] }
  | _ => none }
def matchBackRow : OpenClaim := { program := "ytokemihbkeddoaagreatdoor", sum := "11d83f78bd52a8aba801bf80227e8936e09d875ffdfa5374131e566d9b4aa65d", func := "lyceum/lyceumlaw07.MatchBack", spec := "matchBack", inPlace := ["internal/bytealg.abigen_runtime_cmpstring"], unfollowed := true, recurses := true, named := ["lyceum/syntax.rows", "internal/strconv.uint64pow10", "math/bits.deBruijn32tab", "math/bits.deBruijn64tab"], loops := true, apart := false, laid := [("math/bits.deBruijn32tab", laid_math_bits_deBruijn32tab), ("math/bits.deBruijn64tab", laid_math_bits_deBruijn64tab), ("internal/strconv.uint64pow10", laid_internal_strconv_uint64pow10), ("lyceum/syntax.rows", laid_lyceum_syntax_rows)] }
def MatchBackSaid : Prop := matchBackRow.holds Tryz.pinned (OpenSpec.ofChange matchBackSpec)

/-- ITS FALSE NEIGHBOUR: 'it returns false'. Refute it at one input. -/
def matchBackWrong : ChangeSpec := { name := "matchBack", fn := fun _ => fun
  | [d1, d2] => { results := [.lit (.bool false)], args := [d1, d2] }
  | _ => none }
def MatchBackWrongFalsely : Prop := matchBackRow.holds Tryz.pinned (OpenSpec.ofChange matchBackWrong)

/-- 'lyceumlaw07.MatchAlpha': WHATEVER THE INPUT: true; the input reads as it did. -/
def matchAlphaSpec : ChangeSpec := { name := "matchAlpha", fn := fun _ => fun
  | [d1, d2] => { results := [.lit (.bool true)], args := [d1, d2] }
  | _ => none }
def matchAlphaRow : OpenClaim := { program := "ytokemihbkeddoaagreatdoor", sum := "11d83f78bd52a8aba801bf80227e8936e09d875ffdfa5374131e566d9b4aa65d", func := "lyceum/lyceumlaw07.MatchAlpha", spec := "matchAlpha", inPlace := ["internal/bytealg.abigen_runtime_cmpstring"], unfollowed := true, recurses := true, named := ["lyceum/syntax.rows", "internal/strconv.uint64pow10", "math/bits.deBruijn32tab", "math/bits.deBruijn64tab"], loops := true, apart := false, laid := [("math/bits.deBruijn32tab", laid_math_bits_deBruijn32tab), ("math/bits.deBruijn64tab", laid_math_bits_deBruijn64tab), ("internal/strconv.uint64pow10", laid_internal_strconv_uint64pow10), ("lyceum/syntax.rows", laid_lyceum_syntax_rows)] }
def MatchAlphaSaid : Prop := matchAlphaRow.holds Tryz.pinned (OpenSpec.ofChange matchAlphaSpec)

/-- ITS FALSE NEIGHBOUR: 'it returns false'. Refute it at one input. -/
def matchAlphaWrong : ChangeSpec := { name := "matchAlpha", fn := fun _ => fun
  | [d1, d2] => { results := [.lit (.bool false)], args := [d1, d2] }
  | _ => none }
def MatchAlphaWrongFalsely : Prop := matchAlphaRow.holds Tryz.pinned (OpenSpec.ofChange matchAlphaWrong)

/-- 'lyceumlaw07.MatchInst': WHATEVER THE INPUT: true; the input reads as it did. -/
def matchInstSpec : ChangeSpec := { name := "matchInst", fn := fun _ => fun
  | [d1, d2, d3, d4] => { results := [.lit (.bool true)], args := [d1, d2, d3, d4] }
  | _ => none }
def matchInstRow : OpenClaim := { program := "ytokemihbkeddoaagreatdoor", sum := "11d83f78bd52a8aba801bf80227e8936e09d875ffdfa5374131e566d9b4aa65d", func := "lyceum/lyceumlaw07.MatchInst", spec := "matchInst", inPlace := ["internal/bytealg.abigen_runtime_cmpstring"], unfollowed := true, recurses := true, named := ["lyceum/syntax.rows", "internal/strconv.uint64pow10", "math/bits.deBruijn32tab", "math/bits.deBruijn64tab"], loops := true, apart := false, laid := [("math/bits.deBruijn32tab", laid_math_bits_deBruijn32tab), ("math/bits.deBruijn64tab", laid_math_bits_deBruijn64tab), ("internal/strconv.uint64pow10", laid_internal_strconv_uint64pow10), ("lyceum/syntax.rows", laid_lyceum_syntax_rows)] }
def MatchInstSaid : Prop := matchInstRow.holds Tryz.pinned (OpenSpec.ofChange matchInstSpec)

/-- ITS FALSE NEIGHBOUR: 'it returns false'. Refute it at one input. -/
def matchInstWrong : ChangeSpec := { name := "matchInst", fn := fun _ => fun
  | [d1, d2, d3, d4] => { results := [.lit (.bool false)], args := [d1, d2, d3, d4] }
  | _ => none }
def MatchInstWrongFalsely : Prop := matchInstRow.holds Tryz.pinned (OpenSpec.ofChange matchInstWrong)

/- THE SECOND FORM. 'bulk': how many values and letters a reading holds, each counted each time it is reached (what is shared counts as often as it is met; a slice's spare places count too). A statement '..UptoSaid' is the law's where the arguments, and the package variables that the reading takes, are together of bulk at most 1048576: NARROWER than '..Said'. Prove '..Said' where nothing that the law and all that it calls make is longer than what came in: it says more and counts as full. Else prove '..UptoSaid'. A law counts once. -/
mutual
def uptoBulk {H : Type} : DataW H → Nat
  | .lit (.string bytes) => bytes.length + 1
  | .lit _ => 1
  | .nil => 1
  | .ptr d => uptoBulk d + 1
  | .slice elems spare => uptoBulkAll elems + uptoBulkAll spare + 1
  | .agg parts => uptoBulkAll parts + 1
  | .iface _ d => uptoBulk d + 1
  | .map entries => uptoBulkEntries entries + 1
  | .held _ => 1
def uptoBulkAll {H : Type} : List (DataW H) → Nat
  | [] => 0
  | d :: r => uptoBulk d + uptoBulkAll r
def uptoBulkEntries {H : Type} : List (Lit × DataW H) → Nat
  | [] => 0
  | x :: r => uptoBulkEntry x + uptoBulkEntries r
def uptoBulkEntry {H : Type} : Lit × DataW H → Nat
  | (.string bytes, d) => bytes.length + uptoBulk d + 1
  | (_, d) => uptoBulk d + 1
 end
def uptoSmall : (H : Type) → List (DataW H) → Bool := fun _ ds => decide (uptoBulkAll ds ≤ 1048576)
def OpenSpec.upto (s : _root_.Go.ChangeSpec) : _root_.Go.OpenSpec := { _root_.Go.OpenSpec.ofChange s with cond := some uptoSmall }

/-- 'lyceumlaw07.MatchMore', WHERE WHAT IT READS IS OF BULK AT MOST 1048576: true; the input reads as it did. -/
def matchMoreUptoRow : OpenClaim := { program := "ytokemihbkeddoaagreatdoor", sum := "11d83f78bd52a8aba801bf80227e8936e09d875ffdfa5374131e566d9b4aa65d", func := "lyceum/lyceumlaw07.MatchMore", spec := "matchMore", inPlace := ["internal/bytealg.abigen_runtime_cmpstring"], unfollowed := true, recurses := true, named := ["lyceum/syntax.rows", "internal/strconv.uint64pow10", "math/bits.deBruijn32tab", "math/bits.deBruijn64tab"], loops := true, apart := false, laid := [("math/bits.deBruijn32tab", laid_math_bits_deBruijn32tab), ("math/bits.deBruijn64tab", laid_math_bits_deBruijn64tab), ("internal/strconv.uint64pow10", laid_internal_strconv_uint64pow10), ("lyceum/syntax.rows", laid_lyceum_syntax_rows)], narrowed := true }
def MatchMoreUptoSaid : Prop := matchMoreUptoRow.holds Tryz.pinned (OpenSpec.upto matchMoreSpec)

/-- 'lyceumlaw07.MatchFills', WHERE WHAT IT READS IS OF BULK AT MOST 1048576: true; the input reads as it did. -/
def matchFillsUptoRow : OpenClaim := { program := "ytokemihbkeddoaagreatdoor", sum := "11d83f78bd52a8aba801bf80227e8936e09d875ffdfa5374131e566d9b4aa65d", func := "lyceum/lyceumlaw07.MatchFills", spec := "matchFills", inPlace := ["internal/bytealg.abigen_runtime_cmpstring"], unfollowed := true, recurses := true, named := ["lyceum/syntax.rows", "internal/strconv.uint64pow10", "math/bits.deBruijn32tab", "math/bits.deBruijn64tab"], loops := true, apart := false, laid := [("math/bits.deBruijn32tab", laid_math_bits_deBruijn32tab), ("math/bits.deBruijn64tab", laid_math_bits_deBruijn64tab), ("internal/strconv.uint64pow10", laid_internal_strconv_uint64pow10), ("lyceum/syntax.rows", laid_lyceum_syntax_rows)], narrowed := true }
def MatchFillsUptoSaid : Prop := matchFillsUptoRow.holds Tryz.pinned (OpenSpec.upto matchFillsSpec)

/-- 'lyceumlaw07.MatchWrong', WHERE WHAT IT READS IS OF BULK AT MOST 1048576: true; the input reads as it did. -/
def matchWrongUptoRow : OpenClaim := { program := "ytokemihbkeddoaagreatdoor", sum := "11d83f78bd52a8aba801bf80227e8936e09d875ffdfa5374131e566d9b4aa65d", func := "lyceum/lyceumlaw07.MatchWrong", spec := "matchWrong", inPlace := ["internal/bytealg.abigen_runtime_cmpstring"], unfollowed := true, recurses := true, named := ["lyceum/syntax.rows", "internal/strconv.uint64pow10", "math/bits.deBruijn32tab", "math/bits.deBruijn64tab"], loops := true, apart := false, laid := [("math/bits.deBruijn32tab", laid_math_bits_deBruijn32tab), ("math/bits.deBruijn64tab", laid_math_bits_deBruijn64tab), ("internal/strconv.uint64pow10", laid_internal_strconv_uint64pow10), ("lyceum/syntax.rows", laid_lyceum_syntax_rows)], narrowed := true }
def MatchWrongUptoSaid : Prop := matchWrongUptoRow.holds Tryz.pinned (OpenSpec.upto matchWrongSpec)

/-- 'lyceumlaw07.MatchSmall', WHERE WHAT IT READS IS OF BULK AT MOST 1048576: true; the input reads as it did. -/
def matchSmallUptoRow : OpenClaim := { program := "ytokemihbkeddoaagreatdoor", sum := "11d83f78bd52a8aba801bf80227e8936e09d875ffdfa5374131e566d9b4aa65d", func := "lyceum/lyceumlaw07.MatchSmall", spec := "matchSmall", inPlace := ["internal/bytealg.abigen_runtime_cmpstring"], unfollowed := true, recurses := true, named := ["lyceum/syntax.rows", "internal/strconv.uint64pow10", "math/bits.deBruijn32tab", "math/bits.deBruijn64tab"], apart := false, laid := [("math/bits.deBruijn32tab", laid_math_bits_deBruijn32tab), ("math/bits.deBruijn64tab", laid_math_bits_deBruijn64tab), ("internal/strconv.uint64pow10", laid_internal_strconv_uint64pow10), ("lyceum/syntax.rows", laid_lyceum_syntax_rows)], narrowed := true }
def MatchSmallUptoSaid : Prop := matchSmallUptoRow.holds Tryz.pinned (OpenSpec.upto matchSmallSpec)

/-- 'lyceumlaw07.MatchFill', WHERE WHAT IT READS IS OF BULK AT MOST 1048576: true; the input reads as it did. -/
def matchFillUptoRow : OpenClaim := { program := "ytokemihbkeddoaagreatdoor", sum := "11d83f78bd52a8aba801bf80227e8936e09d875ffdfa5374131e566d9b4aa65d", func := "lyceum/lyceumlaw07.MatchFill", spec := "matchFill", inPlace := ["internal/bytealg.abigen_runtime_cmpstring"], unfollowed := true, recurses := true, named := ["lyceum/syntax.rows", "internal/strconv.uint64pow10", "math/bits.deBruijn32tab", "math/bits.deBruijn64tab"], loops := true, apart := false, laid := [("math/bits.deBruijn32tab", laid_math_bits_deBruijn32tab), ("math/bits.deBruijn64tab", laid_math_bits_deBruijn64tab), ("internal/strconv.uint64pow10", laid_internal_strconv_uint64pow10), ("lyceum/syntax.rows", laid_lyceum_syntax_rows)], narrowed := true }
def MatchFillUptoSaid : Prop := matchFillUptoRow.holds Tryz.pinned (OpenSpec.upto matchFillSpec)

/-- 'lyceumlaw07.MatchScope', WHERE WHAT IT READS IS OF BULK AT MOST 1048576: true; the input reads as it did. -/
def matchScopeUptoRow : OpenClaim := { program := "ytokemihbkeddoaagreatdoor", sum := "11d83f78bd52a8aba801bf80227e8936e09d875ffdfa5374131e566d9b4aa65d", func := "lyceum/lyceumlaw07.MatchScope", spec := "matchScope", inPlace := ["internal/bytealg.abigen_runtime_cmpstring"], unfollowed := true, recurses := true, named := ["lyceum/syntax.rows", "internal/strconv.uint64pow10", "math/bits.deBruijn32tab", "math/bits.deBruijn64tab"], loops := true, apart := false, laid := [("math/bits.deBruijn32tab", laid_math_bits_deBruijn32tab), ("math/bits.deBruijn64tab", laid_math_bits_deBruijn64tab), ("internal/strconv.uint64pow10", laid_internal_strconv_uint64pow10), ("lyceum/syntax.rows", laid_lyceum_syntax_rows)], narrowed := true }
def MatchScopeUptoSaid : Prop := matchScopeUptoRow.holds Tryz.pinned (OpenSpec.upto matchScopeSpec)

/-- 'lyceumlaw07.MatchBack', WHERE WHAT IT READS IS OF BULK AT MOST 1048576: true; the input reads as it did. -/
def matchBackUptoRow : OpenClaim := { program := "ytokemihbkeddoaagreatdoor", sum := "11d83f78bd52a8aba801bf80227e8936e09d875ffdfa5374131e566d9b4aa65d", func := "lyceum/lyceumlaw07.MatchBack", spec := "matchBack", inPlace := ["internal/bytealg.abigen_runtime_cmpstring"], unfollowed := true, recurses := true, named := ["lyceum/syntax.rows", "internal/strconv.uint64pow10", "math/bits.deBruijn32tab", "math/bits.deBruijn64tab"], loops := true, apart := false, laid := [("math/bits.deBruijn32tab", laid_math_bits_deBruijn32tab), ("math/bits.deBruijn64tab", laid_math_bits_deBruijn64tab), ("internal/strconv.uint64pow10", laid_internal_strconv_uint64pow10), ("lyceum/syntax.rows", laid_lyceum_syntax_rows)], narrowed := true }
def MatchBackUptoSaid : Prop := matchBackUptoRow.holds Tryz.pinned (OpenSpec.upto matchBackSpec)

/-- 'lyceumlaw07.MatchAlpha', WHERE WHAT IT READS IS OF BULK AT MOST 1048576: true; the input reads as it did. -/
def matchAlphaUptoRow : OpenClaim := { program := "ytokemihbkeddoaagreatdoor", sum := "11d83f78bd52a8aba801bf80227e8936e09d875ffdfa5374131e566d9b4aa65d", func := "lyceum/lyceumlaw07.MatchAlpha", spec := "matchAlpha", inPlace := ["internal/bytealg.abigen_runtime_cmpstring"], unfollowed := true, recurses := true, named := ["lyceum/syntax.rows", "internal/strconv.uint64pow10", "math/bits.deBruijn32tab", "math/bits.deBruijn64tab"], loops := true, apart := false, laid := [("math/bits.deBruijn32tab", laid_math_bits_deBruijn32tab), ("math/bits.deBruijn64tab", laid_math_bits_deBruijn64tab), ("internal/strconv.uint64pow10", laid_internal_strconv_uint64pow10), ("lyceum/syntax.rows", laid_lyceum_syntax_rows)], narrowed := true }
def MatchAlphaUptoSaid : Prop := matchAlphaUptoRow.holds Tryz.pinned (OpenSpec.upto matchAlphaSpec)

/-- 'lyceumlaw07.MatchInst', WHERE WHAT IT READS IS OF BULK AT MOST 1048576: true; the input reads as it did. -/
def matchInstUptoRow : OpenClaim := { program := "ytokemihbkeddoaagreatdoor", sum := "11d83f78bd52a8aba801bf80227e8936e09d875ffdfa5374131e566d9b4aa65d", func := "lyceum/lyceumlaw07.MatchInst", spec := "matchInst", inPlace := ["internal/bytealg.abigen_runtime_cmpstring"], unfollowed := true, recurses := true, named := ["lyceum/syntax.rows", "internal/strconv.uint64pow10", "math/bits.deBruijn32tab", "math/bits.deBruijn64tab"], loops := true, apart := false, laid := [("math/bits.deBruijn32tab", laid_math_bits_deBruijn32tab), ("math/bits.deBruijn64tab", laid_math_bits_deBruijn64tab), ("internal/strconv.uint64pow10", laid_internal_strconv_uint64pow10), ("lyceum/syntax.rows", laid_lyceum_syntax_rows)], narrowed := true }
def MatchInstUptoSaid : Prop := matchInstUptoRow.holds Tryz.pinned (OpenSpec.upto matchInstSpec)

end Rows
end Go.Proofs.YtokemihbkeddoaaGreatDoor
