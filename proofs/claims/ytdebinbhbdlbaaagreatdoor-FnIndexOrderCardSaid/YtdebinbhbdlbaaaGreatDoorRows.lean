/-
  NARROWER THAN 'FOR EVERY INPUT', by the rows' own cells (each row's printed sentence says how): FnFindMore: laid · FnFindLess: laid · FnIndexOrder: laid · FnFindNot: laid · FnFindSets: laid · FnFindField: laid · FnFindPhrase: laid · FnFindBegin: laid · FnFindWord: laid.
  DERIVED. THE GIVEN ROWS OF THIS SEAT. 9 by the template 'for every input the law returns true; each argument reads behind the call as it read before'; 0 by the template 'total and deterministic' (their statements: YtdebinbhbdlbaaaGreatDoorTotals.lean).
  GIVEN WITH THE SEED: the statements are not yours to turn. If you find one false, say at which input.
  Laid BY PROGRAM, IN A SANDBOX (cutbox-rows.mjs): the forced cells as the released guide's own fill.sh prints them over the translation a8a53ac22b6e21b9… (all of the seat's roots in one cut). By AI agents, Wed Nov 11 2026. No macro, syntax, notation, axiom, sorry.
-/
import Derived.Test.YtdebinbhbdlbaaaGreatDoorChecked
import GoSem.PinnedTables
import GoSem.Claim
import GoSem.ClaimJoined
import GoSem.ClaimMapViews
import Derived.JoinedTies
import Derived.KernelRfl
namespace Go.Proofs.YtdebinbhbdlbaaaGreatDoor
/- THE CELL 'sum', in the pinned program and in every row, IS THE sha256 OF THE DUMP (.gsa) THAT YtdebinbhbdlbaaaGreatDoorProg.lean LOADS. Nothing in Lean hashes anything: it is a label: what it is worth is what the hold of that sum in a sandbox is worth. -/
noncomputable def Tryz.pinned : Pinned := { name := "ytdebinbhbdlbaaagreatdoor", sum := "a8a53ac22b6e21b9b306761a159e074435b2982b3e656f53e6e57cc2c8326a7e", checked := Tryz.checked }
namespace Rows
def none {H : Type} : Left H := { results := [], args := [] }

/- WHAT THE LISTED PACKAGE-LEVEL VARIABLES READ AS WHEN THE CALL BEGINS. Each datum BY PROGRAM (the guide's laid-datum.mjs) off the statement by which the dump's own 'gosem.cut.vars' lays the variable. In a bare row this is a premise. The card (YtdebinbhbdlbaaaGreatDoorCards.lean) ties it to the program's text. -/
def laid_math_bits_deBruijn32tab {H : Type} : DataW H := .agg [.lit (.int .u8 0), .lit (.int .u8 1), .lit (.int .u8 28), .lit (.int .u8 2), .lit (.int .u8 29), .lit (.int .u8 14), .lit (.int .u8 24), .lit (.int .u8 3), .lit (.int .u8 30), .lit (.int .u8 22), .lit (.int .u8 20), .lit (.int .u8 15), .lit (.int .u8 25), .lit (.int .u8 17), .lit (.int .u8 4), .lit (.int .u8 8), .lit (.int .u8 31), .lit (.int .u8 27), .lit (.int .u8 13), .lit (.int .u8 23), .lit (.int .u8 21), .lit (.int .u8 19), .lit (.int .u8 16), .lit (.int .u8 7), .lit (.int .u8 26), .lit (.int .u8 12), .lit (.int .u8 18), .lit (.int .u8 6), .lit (.int .u8 11), .lit (.int .u8 5), .lit (.int .u8 10), .lit (.int .u8 9)]
def laid_math_bits_deBruijn64tab {H : Type} : DataW H := .agg [.lit (.int .u8 0), .lit (.int .u8 1), .lit (.int .u8 56), .lit (.int .u8 2), .lit (.int .u8 57), .lit (.int .u8 49), .lit (.int .u8 28), .lit (.int .u8 3), .lit (.int .u8 61), .lit (.int .u8 58), .lit (.int .u8 42), .lit (.int .u8 50), .lit (.int .u8 38), .lit (.int .u8 29), .lit (.int .u8 17), .lit (.int .u8 4), .lit (.int .u8 62), .lit (.int .u8 47), .lit (.int .u8 59), .lit (.int .u8 36), .lit (.int .u8 45), .lit (.int .u8 43), .lit (.int .u8 51), .lit (.int .u8 22), .lit (.int .u8 53), .lit (.int .u8 39), .lit (.int .u8 33), .lit (.int .u8 30), .lit (.int .u8 24), .lit (.int .u8 18), .lit (.int .u8 12), .lit (.int .u8 5), .lit (.int .u8 63), .lit (.int .u8 55), .lit (.int .u8 48), .lit (.int .u8 27), .lit (.int .u8 60), .lit (.int .u8 41), .lit (.int .u8 37), .lit (.int .u8 16), .lit (.int .u8 46), .lit (.int .u8 35), .lit (.int .u8 44), .lit (.int .u8 21), .lit (.int .u8 52), .lit (.int .u8 32), .lit (.int .u8 23), .lit (.int .u8 11), .lit (.int .u8 54), .lit (.int .u8 26), .lit (.int .u8 40), .lit (.int .u8 15), .lit (.int .u8 34), .lit (.int .u8 20), .lit (.int .u8 31), .lit (.int .u8 10), .lit (.int .u8 25), .lit (.int .u8 14), .lit (.int .u8 19), .lit (.int .u8 9), .lit (.int .u8 13), .lit (.int .u8 8), .lit (.int .u8 7), .lit (.int .u8 6)]
def laid_internal_strconv_uint64pow10 {H : Type} : DataW H := .agg [.lit (.int .u64 1), .lit (.int .u64 10), .lit (.int .u64 100), .lit (.int .u64 1000), .lit (.int .u64 10000), .lit (.int .u64 100000), .lit (.int .u64 1000000), .lit (.int .u64 10000000), .lit (.int .u64 100000000), .lit (.int .u64 1000000000), .lit (.int .u64 10000000000), .lit (.int .u64 100000000000), .lit (.int .u64 1000000000000), .lit (.int .u64 10000000000000), .lit (.int .u64 100000000000000), .lit (.int .u64 1000000000000000), .lit (.int .u64 10000000000000000), .lit (.int .u64 100000000000000000), .lit (.int .u64 1000000000000000000), .lit (.int .u64 10000000000000000000)]
def laid_unicode_utf8_acceptRanges {H : Type} : DataW H := .agg [.agg [.lit (.int .u8 128), .lit (.int .u8 191)], .agg [.lit (.int .u8 160), .lit (.int .u8 191)], .agg [.lit (.int .u8 128), .lit (.int .u8 159)], .agg [.lit (.int .u8 144), .lit (.int .u8 191)], .agg [.lit (.int .u8 128), .lit (.int .u8 143)], .agg [.lit (.int .u8 0), .lit (.int .u8 0)], .agg [.lit (.int .u8 0), .lit (.int .u8 0)], .agg [.lit (.int .u8 0), .lit (.int .u8 0)], .agg [.lit (.int .u8 0), .lit (.int .u8 0)], .agg [.lit (.int .u8 0), .lit (.int .u8 0)], .agg [.lit (.int .u8 0), .lit (.int .u8 0)], .agg [.lit (.int .u8 0), .lit (.int .u8 0)], .agg [.lit (.int .u8 0), .lit (.int .u8 0)], .agg [.lit (.int .u8 0), .lit (.int .u8 0)], .agg [.lit (.int .u8 0), .lit (.int .u8 0)], .agg [.lit (.int .u8 0), .lit (.int .u8 0)]]
def laid_strconv_ErrRange {H : Type} : DataW H := .iface "*errors.errorString" (.ptr (.agg [.lit (.string [118, 97, 108, 117, 101, 32, 111, 117, 116, 32, 111, 102, 32, 114, 97, 110, 103, 101])]))
def laid_strconv_ErrSyntax {H : Type} : DataW H := .iface "*errors.errorString" (.ptr (.agg [.lit (.string [105, 110, 118, 97, 108, 105, 100, 32, 115, 121, 110, 116, 97, 120])]))
def laid_loop_example_spandrel_impl_stops {H : Type} : DataW H := .slice [.lit (.string [97]), .lit (.string [97, 110]), .lit (.string [97, 110, 100]), .lit (.string [111, 102]), .lit (.string [116, 104, 101]), .lit (.string [116, 111])] []
/-- One of Go's own tables, pinned by name: the form's constant. -/
def laid_unicode_utf8_first : DataW Unit := Go.Pinned.utf8First

/-- 'laws.FnFindMore': WHATEVER THE INPUT: true; the input reads as it did. -/
def fnFindMoreSpec : ChangeSpec := { name := "fnFindMore", vars := ["loop.example/spandrel/impl.stops"], fn := fun _ => fun
  | [d1, d2, g1] => { results := [.lit (.bool true)], args := [d1, d2], vars := [g1] }
  | _ => none }
def fnFindMoreRow : OpenClaim := { program := "ytdebinbhbdlbaaagreatdoor", sum := "a8a53ac22b6e21b9b306761a159e074435b2982b3e656f53e6e57cc2c8326a7e", func := "loop.example/spandrel/laws.FnFindMore", spec := "fnFindMore", inPlace := ["internal/bytealg.CountString", "internal/bytealg.IndexByteString", "internal/bytealg.IndexString"], unfollowed := true, recurses := true, named := ["strconv.ErrSyntax", "strconv.ErrRange", "internal/strconv.uint64pow10", "math/bits.deBruijn32tab", "math/bits.deBruijn64tab", "unicode/utf8.first", "unicode/utf8.acceptRanges", "internal/bytealg.MaxLen", "loop.example/spandrel/impl.stops"], plainKeys := false, apart := false, laid := [("math/bits.deBruijn32tab", laid_math_bits_deBruijn32tab), ("math/bits.deBruijn64tab", laid_math_bits_deBruijn64tab), ("internal/strconv.uint64pow10", laid_internal_strconv_uint64pow10), ("unicode/utf8.acceptRanges", laid_unicode_utf8_acceptRanges), ("strconv.ErrRange", laid_strconv_ErrRange), ("strconv.ErrSyntax", laid_strconv_ErrSyntax), ("loop.example/spandrel/impl.stops", laid_loop_example_spandrel_impl_stops), ("unicode/utf8.first", laid_unicode_utf8_first)] }
def FnFindMoreSaid : Prop := fnFindMoreRow.holds Tryz.pinned (OpenSpec.ofChange fnFindMoreSpec)

/-- ITS FALSE NEIGHBOUR: 'it returns false'. Refute it at one input. -/
def fnFindMoreWrong : ChangeSpec := { name := "fnFindMore", vars := ["loop.example/spandrel/impl.stops"], fn := fun _ => fun
  | [d1, d2, g1] => { results := [.lit (.bool false)], args := [d1, d2], vars := [g1] }
  | _ => none }
def FnFindMoreWrongFalsely : Prop := fnFindMoreRow.holds Tryz.pinned (OpenSpec.ofChange fnFindMoreWrong)

/-- 'laws.FnFindLess': WHATEVER THE INPUT: true; the input reads as it did. -/
def fnFindLessSpec : ChangeSpec := { name := "fnFindLess", vars := ["loop.example/spandrel/impl.stops"], fn := fun _ => fun
  | [d1, d2, g1] => { results := [.lit (.bool true)], args := [d1, d2], vars := [g1] }
  | _ => none }
def fnFindLessRow : OpenClaim := { program := "ytdebinbhbdlbaaagreatdoor", sum := "a8a53ac22b6e21b9b306761a159e074435b2982b3e656f53e6e57cc2c8326a7e", func := "loop.example/spandrel/laws.FnFindLess", spec := "fnFindLess", inPlace := ["internal/bytealg.CountString", "internal/bytealg.IndexByteString", "internal/bytealg.IndexString"], unfollowed := true, recurses := true, named := ["strconv.ErrSyntax", "strconv.ErrRange", "internal/strconv.uint64pow10", "math/bits.deBruijn32tab", "math/bits.deBruijn64tab", "unicode/utf8.first", "unicode/utf8.acceptRanges", "internal/bytealg.MaxLen", "loop.example/spandrel/impl.stops"], plainKeys := false, apart := false, laid := [("math/bits.deBruijn32tab", laid_math_bits_deBruijn32tab), ("math/bits.deBruijn64tab", laid_math_bits_deBruijn64tab), ("internal/strconv.uint64pow10", laid_internal_strconv_uint64pow10), ("unicode/utf8.acceptRanges", laid_unicode_utf8_acceptRanges), ("strconv.ErrRange", laid_strconv_ErrRange), ("strconv.ErrSyntax", laid_strconv_ErrSyntax), ("loop.example/spandrel/impl.stops", laid_loop_example_spandrel_impl_stops), ("unicode/utf8.first", laid_unicode_utf8_first)] }
def FnFindLessSaid : Prop := fnFindLessRow.holds Tryz.pinned (OpenSpec.ofChange fnFindLessSpec)

/-- ITS FALSE NEIGHBOUR: 'it returns false'. Refute it at one input. -/
def fnFindLessWrong : ChangeSpec := { name := "fnFindLess", vars := ["loop.example/spandrel/impl.stops"], fn := fun _ => fun
  | [d1, d2, g1] => { results := [.lit (.bool false)], args := [d1, d2], vars := [g1] }
  | _ => none }
def FnFindLessWrongFalsely : Prop := fnFindLessRow.holds Tryz.pinned (OpenSpec.ofChange fnFindLessWrong)

/-- 'laws.FnIndexOrder': WHATEVER THE INPUT: true; the input reads as it did. -/
def fnIndexOrderSpec : ChangeSpec := { name := "fnIndexOrder", vars := ["loop.example/spandrel/impl.stops"], fn := fun _ => fun
  | [d1, d2, g1] => { results := [.lit (.bool true)], args := [d1, d2], vars := [g1] }
  | _ => none }
def fnIndexOrderRow : OpenClaim := { program := "ytdebinbhbdlbaaagreatdoor", sum := "a8a53ac22b6e21b9b306761a159e074435b2982b3e656f53e6e57cc2c8326a7e", func := "loop.example/spandrel/laws.FnIndexOrder", spec := "fnIndexOrder", inPlace := ["internal/bytealg.CountString", "internal/bytealg.IndexByteString", "internal/bytealg.IndexString"], unfollowed := true, recurses := true, named := ["strconv.ErrSyntax", "strconv.ErrRange", "internal/strconv.uint64pow10", "math/bits.deBruijn32tab", "math/bits.deBruijn64tab", "unicode/utf8.first", "unicode/utf8.acceptRanges", "internal/bytealg.MaxLen", "loop.example/spandrel/impl.stops"], plainKeys := false, apart := false, laid := [("math/bits.deBruijn32tab", laid_math_bits_deBruijn32tab), ("math/bits.deBruijn64tab", laid_math_bits_deBruijn64tab), ("internal/strconv.uint64pow10", laid_internal_strconv_uint64pow10), ("unicode/utf8.acceptRanges", laid_unicode_utf8_acceptRanges), ("strconv.ErrRange", laid_strconv_ErrRange), ("strconv.ErrSyntax", laid_strconv_ErrSyntax), ("loop.example/spandrel/impl.stops", laid_loop_example_spandrel_impl_stops), ("unicode/utf8.first", laid_unicode_utf8_first)] }
def FnIndexOrderSaid : Prop := fnIndexOrderRow.holds Tryz.pinned (OpenSpec.ofChange fnIndexOrderSpec)

/-- ITS FALSE NEIGHBOUR: 'it returns false'. Refute it at one input. -/
def fnIndexOrderWrong : ChangeSpec := { name := "fnIndexOrder", vars := ["loop.example/spandrel/impl.stops"], fn := fun _ => fun
  | [d1, d2, g1] => { results := [.lit (.bool false)], args := [d1, d2], vars := [g1] }
  | _ => none }
def FnIndexOrderWrongFalsely : Prop := fnIndexOrderRow.holds Tryz.pinned (OpenSpec.ofChange fnIndexOrderWrong)

/-- 'laws.FnFindNot': WHATEVER THE INPUT: true; the input reads as it did. -/
def fnFindNotSpec : ChangeSpec := { name := "fnFindNot", vars := ["loop.example/spandrel/impl.stops"], fn := fun _ => fun
  | [d, g1] => { results := [.lit (.bool true)], args := [d], vars := [g1] }
  | _ => none }
def fnFindNotRow : OpenClaim := { program := "ytdebinbhbdlbaaagreatdoor", sum := "a8a53ac22b6e21b9b306761a159e074435b2982b3e656f53e6e57cc2c8326a7e", func := "loop.example/spandrel/laws.FnFindNot", spec := "fnFindNot", inPlace := ["internal/bytealg.CountString", "internal/bytealg.IndexByteString", "internal/bytealg.IndexString"], unfollowed := true, recurses := true, named := ["strconv.ErrSyntax", "strconv.ErrRange", "internal/strconv.uint64pow10", "math/bits.deBruijn32tab", "math/bits.deBruijn64tab", "unicode/utf8.first", "unicode/utf8.acceptRanges", "internal/bytealg.MaxLen", "loop.example/spandrel/impl.stops"], plainKeys := false, apart := false, laid := [("math/bits.deBruijn32tab", laid_math_bits_deBruijn32tab), ("math/bits.deBruijn64tab", laid_math_bits_deBruijn64tab), ("internal/strconv.uint64pow10", laid_internal_strconv_uint64pow10), ("unicode/utf8.acceptRanges", laid_unicode_utf8_acceptRanges), ("strconv.ErrRange", laid_strconv_ErrRange), ("strconv.ErrSyntax", laid_strconv_ErrSyntax), ("loop.example/spandrel/impl.stops", laid_loop_example_spandrel_impl_stops), ("unicode/utf8.first", laid_unicode_utf8_first)] }
def FnFindNotSaid : Prop := fnFindNotRow.holds Tryz.pinned (OpenSpec.ofChange fnFindNotSpec)

/-- ITS FALSE NEIGHBOUR: 'it returns false'. Refute it at one input. -/
def fnFindNotWrong : ChangeSpec := { name := "fnFindNot", vars := ["loop.example/spandrel/impl.stops"], fn := fun _ => fun
  | [d, g1] => { results := [.lit (.bool false)], args := [d], vars := [g1] }
  | _ => none }
def FnFindNotWrongFalsely : Prop := fnFindNotRow.holds Tryz.pinned (OpenSpec.ofChange fnFindNotWrong)

/-- 'laws.FnFindSets': WHATEVER THE INPUT: true; the input reads as it did. -/
def fnFindSetsSpec : ChangeSpec := { name := "fnFindSets", vars := ["loop.example/spandrel/impl.stops"], fn := fun _ => fun
  | [d, g1] => { results := [.lit (.bool true)], args := [d], vars := [g1] }
  | _ => none }
def fnFindSetsRow : OpenClaim := { program := "ytdebinbhbdlbaaagreatdoor", sum := "a8a53ac22b6e21b9b306761a159e074435b2982b3e656f53e6e57cc2c8326a7e", func := "loop.example/spandrel/laws.FnFindSets", spec := "fnFindSets", inPlace := ["internal/bytealg.CountString", "internal/bytealg.IndexByteString", "internal/bytealg.IndexString"], unfollowed := true, recurses := true, named := ["strconv.ErrSyntax", "strconv.ErrRange", "internal/strconv.uint64pow10", "math/bits.deBruijn32tab", "math/bits.deBruijn64tab", "unicode/utf8.first", "unicode/utf8.acceptRanges", "internal/bytealg.MaxLen", "loop.example/spandrel/impl.stops"], plainKeys := false, apart := false, laid := [("math/bits.deBruijn32tab", laid_math_bits_deBruijn32tab), ("math/bits.deBruijn64tab", laid_math_bits_deBruijn64tab), ("internal/strconv.uint64pow10", laid_internal_strconv_uint64pow10), ("unicode/utf8.acceptRanges", laid_unicode_utf8_acceptRanges), ("strconv.ErrRange", laid_strconv_ErrRange), ("strconv.ErrSyntax", laid_strconv_ErrSyntax), ("loop.example/spandrel/impl.stops", laid_loop_example_spandrel_impl_stops), ("unicode/utf8.first", laid_unicode_utf8_first)] }
def FnFindSetsSaid : Prop := fnFindSetsRow.holds Tryz.pinned (OpenSpec.ofChange fnFindSetsSpec)

/-- ITS FALSE NEIGHBOUR: 'it returns false'. Refute it at one input. -/
def fnFindSetsWrong : ChangeSpec := { name := "fnFindSets", vars := ["loop.example/spandrel/impl.stops"], fn := fun _ => fun
  | [d, g1] => { results := [.lit (.bool false)], args := [d], vars := [g1] }
  | _ => none }
def FnFindSetsWrongFalsely : Prop := fnFindSetsRow.holds Tryz.pinned (OpenSpec.ofChange fnFindSetsWrong)

/-- 'laws.FnFindField': WHATEVER THE INPUT: true; the input reads as it did. -/
def fnFindFieldSpec : ChangeSpec := { name := "fnFindField", vars := ["loop.example/spandrel/impl.stops"], fn := fun _ => fun
  | [d, g1] => { results := [.lit (.bool true)], args := [d], vars := [g1] }
  | _ => none }
def fnFindFieldRow : OpenClaim := { program := "ytdebinbhbdlbaaagreatdoor", sum := "a8a53ac22b6e21b9b306761a159e074435b2982b3e656f53e6e57cc2c8326a7e", func := "loop.example/spandrel/laws.FnFindField", spec := "fnFindField", inPlace := ["internal/bytealg.CountString", "internal/bytealg.IndexByteString", "internal/bytealg.IndexString"], unfollowed := true, recurses := true, named := ["strconv.ErrSyntax", "strconv.ErrRange", "internal/strconv.uint64pow10", "math/bits.deBruijn32tab", "math/bits.deBruijn64tab", "unicode/utf8.first", "unicode/utf8.acceptRanges", "internal/bytealg.MaxLen", "loop.example/spandrel/impl.stops"], plainKeys := false, apart := false, laid := [("math/bits.deBruijn32tab", laid_math_bits_deBruijn32tab), ("math/bits.deBruijn64tab", laid_math_bits_deBruijn64tab), ("internal/strconv.uint64pow10", laid_internal_strconv_uint64pow10), ("unicode/utf8.acceptRanges", laid_unicode_utf8_acceptRanges), ("strconv.ErrRange", laid_strconv_ErrRange), ("strconv.ErrSyntax", laid_strconv_ErrSyntax), ("loop.example/spandrel/impl.stops", laid_loop_example_spandrel_impl_stops), ("unicode/utf8.first", laid_unicode_utf8_first)] }
def FnFindFieldSaid : Prop := fnFindFieldRow.holds Tryz.pinned (OpenSpec.ofChange fnFindFieldSpec)

/-- ITS FALSE NEIGHBOUR: 'it returns false'. Refute it at one input. -/
def fnFindFieldWrong : ChangeSpec := { name := "fnFindField", vars := ["loop.example/spandrel/impl.stops"], fn := fun _ => fun
  | [d, g1] => { results := [.lit (.bool false)], args := [d], vars := [g1] }
  | _ => none }
def FnFindFieldWrongFalsely : Prop := fnFindFieldRow.holds Tryz.pinned (OpenSpec.ofChange fnFindFieldWrong)

/-- 'laws.FnFindPhrase': WHATEVER THE INPUT: true; the input reads as it did. -/
def fnFindPhraseSpec : ChangeSpec := { name := "fnFindPhrase", vars := ["loop.example/spandrel/impl.stops"], fn := fun _ => fun
  | [d, g1] => { results := [.lit (.bool true)], args := [d], vars := [g1] }
  | _ => none }
def fnFindPhraseRow : OpenClaim := { program := "ytdebinbhbdlbaaagreatdoor", sum := "a8a53ac22b6e21b9b306761a159e074435b2982b3e656f53e6e57cc2c8326a7e", func := "loop.example/spandrel/laws.FnFindPhrase", spec := "fnFindPhrase", inPlace := ["internal/bytealg.CountString", "internal/bytealg.IndexByteString", "internal/bytealg.IndexString"], unfollowed := true, recurses := true, named := ["strconv.ErrSyntax", "strconv.ErrRange", "internal/strconv.uint64pow10", "math/bits.deBruijn32tab", "math/bits.deBruijn64tab", "unicode/utf8.first", "unicode/utf8.acceptRanges", "internal/bytealg.MaxLen", "loop.example/spandrel/impl.stops"], plainKeys := false, apart := false, laid := [("math/bits.deBruijn32tab", laid_math_bits_deBruijn32tab), ("math/bits.deBruijn64tab", laid_math_bits_deBruijn64tab), ("internal/strconv.uint64pow10", laid_internal_strconv_uint64pow10), ("unicode/utf8.acceptRanges", laid_unicode_utf8_acceptRanges), ("strconv.ErrRange", laid_strconv_ErrRange), ("strconv.ErrSyntax", laid_strconv_ErrSyntax), ("loop.example/spandrel/impl.stops", laid_loop_example_spandrel_impl_stops), ("unicode/utf8.first", laid_unicode_utf8_first)] }
def FnFindPhraseSaid : Prop := fnFindPhraseRow.holds Tryz.pinned (OpenSpec.ofChange fnFindPhraseSpec)

/-- ITS FALSE NEIGHBOUR: 'it returns false'. Refute it at one input. -/
def fnFindPhraseWrong : ChangeSpec := { name := "fnFindPhrase", vars := ["loop.example/spandrel/impl.stops"], fn := fun _ => fun
  | [d, g1] => { results := [.lit (.bool false)], args := [d], vars := [g1] }
  | _ => none }
def FnFindPhraseWrongFalsely : Prop := fnFindPhraseRow.holds Tryz.pinned (OpenSpec.ofChange fnFindPhraseWrong)

/-- 'laws.FnFindBegin': WHATEVER THE INPUT: true; the input reads as it did. -/
def fnFindBeginSpec : ChangeSpec := { name := "fnFindBegin", vars := ["loop.example/spandrel/impl.stops"], fn := fun _ => fun
  | [d, g1] => { results := [.lit (.bool true)], args := [d], vars := [g1] }
  | _ => none }
def fnFindBeginRow : OpenClaim := { program := "ytdebinbhbdlbaaagreatdoor", sum := "a8a53ac22b6e21b9b306761a159e074435b2982b3e656f53e6e57cc2c8326a7e", func := "loop.example/spandrel/laws.FnFindBegin", spec := "fnFindBegin", inPlace := ["internal/bytealg.CountString", "internal/bytealg.IndexByteString", "internal/bytealg.IndexString"], unfollowed := true, recurses := true, named := ["strconv.ErrSyntax", "strconv.ErrRange", "internal/strconv.uint64pow10", "math/bits.deBruijn32tab", "math/bits.deBruijn64tab", "unicode/utf8.first", "unicode/utf8.acceptRanges", "internal/bytealg.MaxLen", "loop.example/spandrel/impl.stops"], plainKeys := false, apart := false, laid := [("math/bits.deBruijn32tab", laid_math_bits_deBruijn32tab), ("math/bits.deBruijn64tab", laid_math_bits_deBruijn64tab), ("internal/strconv.uint64pow10", laid_internal_strconv_uint64pow10), ("unicode/utf8.acceptRanges", laid_unicode_utf8_acceptRanges), ("strconv.ErrRange", laid_strconv_ErrRange), ("strconv.ErrSyntax", laid_strconv_ErrSyntax), ("loop.example/spandrel/impl.stops", laid_loop_example_spandrel_impl_stops), ("unicode/utf8.first", laid_unicode_utf8_first)] }
def FnFindBeginSaid : Prop := fnFindBeginRow.holds Tryz.pinned (OpenSpec.ofChange fnFindBeginSpec)

/-- ITS FALSE NEIGHBOUR: 'it returns false'. Refute it at one input. -/
def fnFindBeginWrong : ChangeSpec := { name := "fnFindBegin", vars := ["loop.example/spandrel/impl.stops"], fn := fun _ => fun
  | [d, g1] => { results := [.lit (.bool false)], args := [d], vars := [g1] }
  | _ => none }
def FnFindBeginWrongFalsely : Prop := fnFindBeginRow.holds Tryz.pinned (OpenSpec.ofChange fnFindBeginWrong)

/-- 'laws.FnFindWord': WHATEVER THE INPUT: true; the input reads as it did. -/
def fnFindWordSpec : ChangeSpec := { name := "fnFindWord", vars := ["loop.example/spandrel/impl.stops"], fn := fun _ => fun
  | [d, g1] => { results := [.lit (.bool true)], args := [d], vars := [g1] }
  | _ => none }
def fnFindWordRow : OpenClaim := { program := "ytdebinbhbdlbaaagreatdoor", sum := "a8a53ac22b6e21b9b306761a159e074435b2982b3e656f53e6e57cc2c8326a7e", func := "loop.example/spandrel/laws.FnFindWord", spec := "fnFindWord", inPlace := ["internal/bytealg.CountString", "internal/bytealg.IndexByteString", "internal/bytealg.IndexString"], unfollowed := true, recurses := true, named := ["strconv.ErrSyntax", "strconv.ErrRange", "internal/strconv.uint64pow10", "math/bits.deBruijn32tab", "math/bits.deBruijn64tab", "unicode/utf8.first", "unicode/utf8.acceptRanges", "internal/bytealg.MaxLen", "loop.example/spandrel/impl.stops"], plainKeys := false, apart := false, laid := [("math/bits.deBruijn32tab", laid_math_bits_deBruijn32tab), ("math/bits.deBruijn64tab", laid_math_bits_deBruijn64tab), ("internal/strconv.uint64pow10", laid_internal_strconv_uint64pow10), ("unicode/utf8.acceptRanges", laid_unicode_utf8_acceptRanges), ("strconv.ErrRange", laid_strconv_ErrRange), ("strconv.ErrSyntax", laid_strconv_ErrSyntax), ("loop.example/spandrel/impl.stops", laid_loop_example_spandrel_impl_stops), ("unicode/utf8.first", laid_unicode_utf8_first)] }
def FnFindWordSaid : Prop := fnFindWordRow.holds Tryz.pinned (OpenSpec.ofChange fnFindWordSpec)

/-- ITS FALSE NEIGHBOUR: 'it returns false'. Refute it at one input. -/
def fnFindWordWrong : ChangeSpec := { name := "fnFindWord", vars := ["loop.example/spandrel/impl.stops"], fn := fun _ => fun
  | [d, g1] => { results := [.lit (.bool false)], args := [d], vars := [g1] }
  | _ => none }
def FnFindWordWrongFalsely : Prop := fnFindWordRow.holds Tryz.pinned (OpenSpec.ofChange fnFindWordWrong)

/- THE SECOND FORM. 'bulk': how many values and letters a reading holds, each counted each time it is reached (what is shared counts as often as it is met; a slice's spare places count too). A statement '..UptoSaid' is the law's where the arguments, and the package variables that the reading takes, are together of bulk at most 1048576: NARROWER than '..Said'. Prove '..Said' where nothing that the law and all that it calls make is longer than what came in: it says more and counts as full. Else prove '..UptoSaid'. A law counts once. -/
mutual
def uptoBulk {H : Type} : DataW H → Nat
  | .lit (.string bytes) => bytes.length + 1
  | .lit _ => 1
  | .nil => 1
  | .ptr d => uptoBulk d + 1
  | .slice elems spare => uptoBulkAll elems + uptoBulkAll spare + 1
  | .agg parts => uptoBulkAll parts + 1
  | .iface _ d => uptoBulk d + 1
  | .map entries => uptoBulkEntries entries + 1
  | .held _ => 1
def uptoBulkAll {H : Type} : List (DataW H) → Nat
  | [] => 0
  | d :: r => uptoBulk d + uptoBulkAll r
def uptoBulkEntries {H : Type} : List (Lit × DataW H) → Nat
  | [] => 0
  | x :: r => uptoBulkEntry x + uptoBulkEntries r
def uptoBulkEntry {H : Type} : Lit × DataW H → Nat
  | (.string bytes, d) => bytes.length + uptoBulk d + 1
  | (_, d) => uptoBulk d + 1
 end
def uptoSmall : (H : Type) → List (DataW H) → Bool := fun _ ds => decide (uptoBulkAll ds ≤ 1048576)
def OpenSpec.upto (s : _root_.Go.ChangeSpec) : _root_.Go.OpenSpec := { _root_.Go.OpenSpec.ofChange s with cond := some uptoSmall }

/-- 'laws.FnFindMore', WHERE WHAT IT READS IS OF BULK AT MOST 1048576: true; the input reads as it did. -/
def fnFindMoreUptoRow : OpenClaim := { program := "ytdebinbhbdlbaaagreatdoor", sum := "a8a53ac22b6e21b9b306761a159e074435b2982b3e656f53e6e57cc2c8326a7e", func := "loop.example/spandrel/laws.FnFindMore", spec := "fnFindMore", inPlace := ["internal/bytealg.CountString", "internal/bytealg.IndexByteString", "internal/bytealg.IndexString"], unfollowed := true, recurses := true, named := ["strconv.ErrSyntax", "strconv.ErrRange", "internal/strconv.uint64pow10", "math/bits.deBruijn32tab", "math/bits.deBruijn64tab", "unicode/utf8.first", "unicode/utf8.acceptRanges", "internal/bytealg.MaxLen", "loop.example/spandrel/impl.stops"], plainKeys := false, apart := false, laid := [("math/bits.deBruijn32tab", laid_math_bits_deBruijn32tab), ("math/bits.deBruijn64tab", laid_math_bits_deBruijn64tab), ("internal/strconv.uint64pow10", laid_internal_strconv_uint64pow10), ("unicode/utf8.acceptRanges", laid_unicode_utf8_acceptRanges), ("strconv.ErrRange", laid_strconv_ErrRange), ("strconv.ErrSyntax", laid_strconv_ErrSyntax), ("loop.example/spandrel/impl.stops", laid_loop_example_spandrel_impl_stops), ("unicode/utf8.first", laid_unicode_utf8_first)], narrowed := true }
def FnFindMoreUptoSaid : Prop := fnFindMoreUptoRow.holds Tryz.pinned (OpenSpec.upto fnFindMoreSpec)

/-- 'laws.FnFindLess', WHERE WHAT IT READS IS OF BULK AT MOST 1048576: true; the input reads as it did. -/
def fnFindLessUptoRow : OpenClaim := { program := "ytdebinbhbdlbaaagreatdoor", sum := "a8a53ac22b6e21b9b306761a159e074435b2982b3e656f53e6e57cc2c8326a7e", func := "loop.example/spandrel/laws.FnFindLess", spec := "fnFindLess", inPlace := ["internal/bytealg.CountString", "internal/bytealg.IndexByteString", "internal/bytealg.IndexString"], unfollowed := true, recurses := true, named := ["strconv.ErrSyntax", "strconv.ErrRange", "internal/strconv.uint64pow10", "math/bits.deBruijn32tab", "math/bits.deBruijn64tab", "unicode/utf8.first", "unicode/utf8.acceptRanges", "internal/bytealg.MaxLen", "loop.example/spandrel/impl.stops"], plainKeys := false, apart := false, laid := [("math/bits.deBruijn32tab", laid_math_bits_deBruijn32tab), ("math/bits.deBruijn64tab", laid_math_bits_deBruijn64tab), ("internal/strconv.uint64pow10", laid_internal_strconv_uint64pow10), ("unicode/utf8.acceptRanges", laid_unicode_utf8_acceptRanges), ("strconv.ErrRange", laid_strconv_ErrRange), ("strconv.ErrSyntax", laid_strconv_ErrSyntax), ("loop.example/spandrel/impl.stops", laid_loop_example_spandrel_impl_stops), ("unicode/utf8.first", laid_unicode_utf8_first)], narrowed := true }
def FnFindLessUptoSaid : Prop := fnFindLessUptoRow.holds Tryz.pinned (OpenSpec.upto fnFindLessSpec)

/-- 'laws.FnIndexOrder', WHERE WHAT IT READS IS OF BULK AT MOST 1048576: true; the input reads as it did. -/
def fnIndexOrderUptoRow : OpenClaim := { program := "ytdebinbhbdlbaaagreatdoor", sum := "a8a53ac22b6e21b9b306761a159e074435b2982b3e656f53e6e57cc2c8326a7e", func := "loop.example/spandrel/laws.FnIndexOrder", spec := "fnIndexOrder", inPlace := ["internal/bytealg.CountString", "internal/bytealg.IndexByteString", "internal/bytealg.IndexString"], unfollowed := true, recurses := true, named := ["strconv.ErrSyntax", "strconv.ErrRange", "internal/strconv.uint64pow10", "math/bits.deBruijn32tab", "math/bits.deBruijn64tab", "unicode/utf8.first", "unicode/utf8.acceptRanges", "internal/bytealg.MaxLen", "loop.example/spandrel/impl.stops"], plainKeys := false, apart := false, laid := [("math/bits.deBruijn32tab", laid_math_bits_deBruijn32tab), ("math/bits.deBruijn64tab", laid_math_bits_deBruijn64tab), ("internal/strconv.uint64pow10", laid_internal_strconv_uint64pow10), ("unicode/utf8.acceptRanges", laid_unicode_utf8_acceptRanges), ("strconv.ErrRange", laid_strconv_ErrRange), ("strconv.ErrSyntax", laid_strconv_ErrSyntax), ("loop.example/spandrel/impl.stops", laid_loop_example_spandrel_impl_stops), ("unicode/utf8.first", laid_unicode_utf8_first)], narrowed := true }
def FnIndexOrderUptoSaid : Prop := fnIndexOrderUptoRow.holds Tryz.pinned (OpenSpec.upto fnIndexOrderSpec)

/-- 'laws.FnFindNot', WHERE WHAT IT READS IS OF BULK AT MOST 1048576: true; the input reads as it did. -/
def fnFindNotUptoRow : OpenClaim := { program := "ytdebinbhbdlbaaagreatdoor", sum := "a8a53ac22b6e21b9b306761a159e074435b2982b3e656f53e6e57cc2c8326a7e", func := "loop.example/spandrel/laws.FnFindNot", spec := "fnFindNot", inPlace := ["internal/bytealg.CountString", "internal/bytealg.IndexByteString", "internal/bytealg.IndexString"], unfollowed := true, recurses := true, named := ["strconv.ErrSyntax", "strconv.ErrRange", "internal/strconv.uint64pow10", "math/bits.deBruijn32tab", "math/bits.deBruijn64tab", "unicode/utf8.first", "unicode/utf8.acceptRanges", "internal/bytealg.MaxLen", "loop.example/spandrel/impl.stops"], plainKeys := false, apart := false, laid := [("math/bits.deBruijn32tab", laid_math_bits_deBruijn32tab), ("math/bits.deBruijn64tab", laid_math_bits_deBruijn64tab), ("internal/strconv.uint64pow10", laid_internal_strconv_uint64pow10), ("unicode/utf8.acceptRanges", laid_unicode_utf8_acceptRanges), ("strconv.ErrRange", laid_strconv_ErrRange), ("strconv.ErrSyntax", laid_strconv_ErrSyntax), ("loop.example/spandrel/impl.stops", laid_loop_example_spandrel_impl_stops), ("unicode/utf8.first", laid_unicode_utf8_first)], narrowed := true }
def FnFindNotUptoSaid : Prop := fnFindNotUptoRow.holds Tryz.pinned (OpenSpec.upto fnFindNotSpec)

/-- 'laws.FnFindSets', WHERE WHAT IT READS IS OF BULK AT MOST 1048576: true; the input reads as it did. -/
def fnFindSetsUptoRow : OpenClaim := { program := "ytdebinbhbdlbaaagreatdoor", sum := "a8a53ac22b6e21b9b306761a159e074435b2982b3e656f53e6e57cc2c8326a7e", func := "loop.example/spandrel/laws.FnFindSets", spec := "fnFindSets", inPlace := ["internal/bytealg.CountString", "internal/bytealg.IndexByteString", "internal/bytealg.IndexString"], unfollowed := true, recurses := true, named := ["strconv.ErrSyntax", "strconv.ErrRange", "internal/strconv.uint64pow10", "math/bits.deBruijn32tab", "math/bits.deBruijn64tab", "unicode/utf8.first", "unicode/utf8.acceptRanges", "internal/bytealg.MaxLen", "loop.example/spandrel/impl.stops"], plainKeys := false, apart := false, laid := [("math/bits.deBruijn32tab", laid_math_bits_deBruijn32tab), ("math/bits.deBruijn64tab", laid_math_bits_deBruijn64tab), ("internal/strconv.uint64pow10", laid_internal_strconv_uint64pow10), ("unicode/utf8.acceptRanges", laid_unicode_utf8_acceptRanges), ("strconv.ErrRange", laid_strconv_ErrRange), ("strconv.ErrSyntax", laid_strconv_ErrSyntax), ("loop.example/spandrel/impl.stops", laid_loop_example_spandrel_impl_stops), ("unicode/utf8.first", laid_unicode_utf8_first)], narrowed := true }
def FnFindSetsUptoSaid : Prop := fnFindSetsUptoRow.holds Tryz.pinned (OpenSpec.upto fnFindSetsSpec)

/-- 'laws.FnFindField', WHERE WHAT IT READS IS OF BULK AT MOST 1048576: true; the input reads as it did. -/
def fnFindFieldUptoRow : OpenClaim := { program := "ytdebinbhbdlbaaagreatdoor", sum := "a8a53ac22b6e21b9b306761a159e074435b2982b3e656f53e6e57cc2c8326a7e", func := "loop.example/spandrel/laws.FnFindField", spec := "fnFindField", inPlace := ["internal/bytealg.CountString", "internal/bytealg.IndexByteString", "internal/bytealg.IndexString"], unfollowed := true, recurses := true, named := ["strconv.ErrSyntax", "strconv.ErrRange", "internal/strconv.uint64pow10", "math/bits.deBruijn32tab", "math/bits.deBruijn64tab", "unicode/utf8.first", "unicode/utf8.acceptRanges", "internal/bytealg.MaxLen", "loop.example/spandrel/impl.stops"], plainKeys := false, apart := false, laid := [("math/bits.deBruijn32tab", laid_math_bits_deBruijn32tab), ("math/bits.deBruijn64tab", laid_math_bits_deBruijn64tab), ("internal/strconv.uint64pow10", laid_internal_strconv_uint64pow10), ("unicode/utf8.acceptRanges", laid_unicode_utf8_acceptRanges), ("strconv.ErrRange", laid_strconv_ErrRange), ("strconv.ErrSyntax", laid_strconv_ErrSyntax), ("loop.example/spandrel/impl.stops", laid_loop_example_spandrel_impl_stops), ("unicode/utf8.first", laid_unicode_utf8_first)], narrowed := true }
def FnFindFieldUptoSaid : Prop := fnFindFieldUptoRow.holds Tryz.pinned (OpenSpec.upto fnFindFieldSpec)

/-- 'laws.FnFindPhrase', WHERE WHAT IT READS IS OF BULK AT MOST 1048576: true; the input reads as it did. -/
def fnFindPhraseUptoRow : OpenClaim := { program := "ytdebinbhbdlbaaagreatdoor", sum := "a8a53ac22b6e21b9b306761a159e074435b2982b3e656f53e6e57cc2c8326a7e", func := "loop.example/spandrel/laws.FnFindPhrase", spec := "fnFindPhrase", inPlace := ["internal/bytealg.CountString", "internal/bytealg.IndexByteString", "internal/bytealg.IndexString"], unfollowed := true, recurses := true, named := ["strconv.ErrSyntax", "strconv.ErrRange", "internal/strconv.uint64pow10", "math/bits.deBruijn32tab", "math/bits.deBruijn64tab", "unicode/utf8.first", "unicode/utf8.acceptRanges", "internal/bytealg.MaxLen", "loop.example/spandrel/impl.stops"], plainKeys := false, apart := false, laid := [("math/bits.deBruijn32tab", laid_math_bits_deBruijn32tab), ("math/bits.deBruijn64tab", laid_math_bits_deBruijn64tab), ("internal/strconv.uint64pow10", laid_internal_strconv_uint64pow10), ("unicode/utf8.acceptRanges", laid_unicode_utf8_acceptRanges), ("strconv.ErrRange", laid_strconv_ErrRange), ("strconv.ErrSyntax", laid_strconv_ErrSyntax), ("loop.example/spandrel/impl.stops", laid_loop_example_spandrel_impl_stops), ("unicode/utf8.first", laid_unicode_utf8_first)], narrowed := true }
def FnFindPhraseUptoSaid : Prop := fnFindPhraseUptoRow.holds Tryz.pinned (OpenSpec.upto fnFindPhraseSpec)

/-- 'laws.FnFindBegin', WHERE WHAT IT READS IS OF BULK AT MOST 1048576: true; the input reads as it did. -/
def fnFindBeginUptoRow : OpenClaim := { program := "ytdebinbhbdlbaaagreatdoor", sum := "a8a53ac22b6e21b9b306761a159e074435b2982b3e656f53e6e57cc2c8326a7e", func := "loop.example/spandrel/laws.FnFindBegin", spec := "fnFindBegin", inPlace := ["internal/bytealg.CountString", "internal/bytealg.IndexByteString", "internal/bytealg.IndexString"], unfollowed := true, recurses := true, named := ["strconv.ErrSyntax", "strconv.ErrRange", "internal/strconv.uint64pow10", "math/bits.deBruijn32tab", "math/bits.deBruijn64tab", "unicode/utf8.first", "unicode/utf8.acceptRanges", "internal/bytealg.MaxLen", "loop.example/spandrel/impl.stops"], plainKeys := false, apart := false, laid := [("math/bits.deBruijn32tab", laid_math_bits_deBruijn32tab), ("math/bits.deBruijn64tab", laid_math_bits_deBruijn64tab), ("internal/strconv.uint64pow10", laid_internal_strconv_uint64pow10), ("unicode/utf8.acceptRanges", laid_unicode_utf8_acceptRanges), ("strconv.ErrRange", laid_strconv_ErrRange), ("strconv.ErrSyntax", laid_strconv_ErrSyntax), ("loop.example/spandrel/impl.stops", laid_loop_example_spandrel_impl_stops), ("unicode/utf8.first", laid_unicode_utf8_first)], narrowed := true }
def FnFindBeginUptoSaid : Prop := fnFindBeginUptoRow.holds Tryz.pinned (OpenSpec.upto fnFindBeginSpec)

/-- 'laws.FnFindWord', WHERE WHAT IT READS IS OF BULK AT MOST 1048576: true; the input reads as it did. -/
def fnFindWordUptoRow : OpenClaim := { program := "ytdebinbhbdlbaaagreatdoor", sum := "a8a53ac22b6e21b9b306761a159e074435b2982b3e656f53e6e57cc2c8326a7e", func := "loop.example/spandrel/laws.FnFindWord", spec := "fnFindWord", inPlace := ["internal/bytealg.CountString", "internal/bytealg.IndexByteString", "internal/bytealg.IndexString"], unfollowed := true, recurses := true, named := ["strconv.ErrSyntax", "strconv.ErrRange", "internal/strconv.uint64pow10", "math/bits.deBruijn32tab", "math/bits.deBruijn64tab", "unicode/utf8.first", "unicode/utf8.acceptRanges", "internal/bytealg.MaxLen", "loop.example/spandrel/impl.stops"], plainKeys := false, apart := false, laid := [("math/bits.deBruijn32tab", laid_math_bits_deBruijn32tab), ("math/bits.deBruijn64tab", laid_math_bits_deBruijn64tab), ("internal/strconv.uint64pow10", laid_internal_strconv_uint64pow10), ("unicode/utf8.acceptRanges", laid_unicode_utf8_acceptRanges), ("strconv.ErrRange", laid_strconv_ErrRange), ("strconv.ErrSyntax", laid_strconv_ErrSyntax), ("loop.example/spandrel/impl.stops", laid_loop_example_spandrel_impl_stops), ("unicode/utf8.first", laid_unicode_utf8_first)], narrowed := true }
def FnFindWordUptoSaid : Prop := fnFindWordUptoRow.holds Tryz.pinned (OpenSpec.upto fnFindWordSpec)

end Rows
end Go.Proofs.YtdebinbhbdlbaaaGreatDoor
