/-
  NARROWER THAN 'FOR EVERY INPUT', by the rows' own cells (each row's printed sentence says how): CueOnly: laid · CueRemains: laid · CueTrue: laid · CueCounts: laid · CueAdds: laid · CueTells: laid · CueApart: laid · CueSettles: laid · CueSettled: laid · CueAsks: laid · CueGame: laid · CueJoins: laid · CueJoined: laid · CueReduces: laid · CueLeast: laid · CueMishears: laid · CueHeard: laid · CueNevers: laid · CueFenced: laid · CueMore: laid · CuePlays: laid · CuePrints: laid · CueReads: laid · CueSpoilt: laid.
  DERIVED. THE GIVEN ROWS OF THIS SEAT. 24 by the template 'for every input the law returns true; each argument reads behind the call as it read before'; 0 by the template 'total and deterministic' (their statements: YtdhdaadoehbopaaGreatDoorTotals.lean).
  GIVEN WITH THE SEED: the statements are not yours to turn. If you find one false, say at which input.
  Laid BY PROGRAM, IN A SANDBOX (cutbox-rows.mjs): the forced cells as the released guide's own fill.sh prints them over the translation 4a2911568d3d2282… (all of the seat's roots in one cut). By AI agents, Wed Nov 11 2026. No macro, syntax, notation, axiom, sorry.
-/
import Derived.Test.YtdhdaadoehbopaaGreatDoorChecked
import GoSem.PinnedTables
import GoSem.Claim
import GoSem.ClaimJoined
import GoSem.ClaimMapViews
import Derived.JoinedTies
import Derived.KernelRfl
namespace Go.Proofs.YtdhdaadoehbopaaGreatDoor
/- THE CELL 'sum', in the pinned program and in every row, IS THE sha256 OF THE DUMP (.gsa) THAT YtdhdaadoehbopaaGreatDoorProg.lean LOADS. Nothing in Lean hashes anything: it is a label: what it is worth is what the hold of that sum in a sandbox is worth. -/
noncomputable def Tryz.pinned : Pinned := { name := "ytdhdaadoehbopaagreatdoor", sum := "4a2911568d3d22828a4ed16592fce81d2c45cd81782ec2d9fb27d7ce7397ce43", checked := Tryz.checked }
namespace Rows
def none {H : Type} : Left H := { results := [], args := [] }

/- WHAT THE LISTED PACKAGE-LEVEL VARIABLES READ AS WHEN THE CALL BEGINS. Each datum BY PROGRAM (the guide's laid-datum.mjs) off the statement by which the dump's own 'gosem.cut.vars' lays the variable. In a bare row this is a premise. The card (YtdhdaadoehbopaaGreatDoorCards.lean) ties it to the program's text. -/
def laid_math_bits_deBruijn32tab {H : Type} : DataW H := .agg [.lit (.int .u8 0), .lit (.int .u8 1), .lit (.int .u8 28), .lit (.int .u8 2), .lit (.int .u8 29), .lit (.int .u8 14), .lit (.int .u8 24), .lit (.int .u8 3), .lit (.int .u8 30), .lit (.int .u8 22), .lit (.int .u8 20), .lit (.int .u8 15), .lit (.int .u8 25), .lit (.int .u8 17), .lit (.int .u8 4), .lit (.int .u8 8), .lit (.int .u8 31), .lit (.int .u8 27), .lit (.int .u8 13), .lit (.int .u8 23), .lit (.int .u8 21), .lit (.int .u8 19), .lit (.int .u8 16), .lit (.int .u8 7), .lit (.int .u8 26), .lit (.int .u8 12), .lit (.int .u8 18), .lit (.int .u8 6), .lit (.int .u8 11), .lit (.int .u8 5), .lit (.int .u8 10), .lit (.int .u8 9)]
def laid_math_bits_deBruijn64tab {H : Type} : DataW H := .agg [.lit (.int .u8 0), .lit (.int .u8 1), .lit (.int .u8 56), .lit (.int .u8 2), .lit (.int .u8 57), .lit (.int .u8 49), .lit (.int .u8 28), .lit (.int .u8 3), .lit (.int .u8 61), .lit (.int .u8 58), .lit (.int .u8 42), .lit (.int .u8 50), .lit (.int .u8 38), .lit (.int .u8 29), .lit (.int .u8 17), .lit (.int .u8 4), .lit (.int .u8 62), .lit (.int .u8 47), .lit (.int .u8 59), .lit (.int .u8 36), .lit (.int .u8 45), .lit (.int .u8 43), .lit (.int .u8 51), .lit (.int .u8 22), .lit (.int .u8 53), .lit (.int .u8 39), .lit (.int .u8 33), .lit (.int .u8 30), .lit (.int .u8 24), .lit (.int .u8 18), .lit (.int .u8 12), .lit (.int .u8 5), .lit (.int .u8 63), .lit (.int .u8 55), .lit (.int .u8 48), .lit (.int .u8 27), .lit (.int .u8 60), .lit (.int .u8 41), .lit (.int .u8 37), .lit (.int .u8 16), .lit (.int .u8 46), .lit (.int .u8 35), .lit (.int .u8 44), .lit (.int .u8 21), .lit (.int .u8 52), .lit (.int .u8 32), .lit (.int .u8 23), .lit (.int .u8 11), .lit (.int .u8 54), .lit (.int .u8 26), .lit (.int .u8 40), .lit (.int .u8 15), .lit (.int .u8 34), .lit (.int .u8 20), .lit (.int .u8 31), .lit (.int .u8 10), .lit (.int .u8 25), .lit (.int .u8 14), .lit (.int .u8 19), .lit (.int .u8 9), .lit (.int .u8 13), .lit (.int .u8 8), .lit (.int .u8 7), .lit (.int .u8 6)]
def laid_internal_strconv_uint64pow10 {H : Type} : DataW H := .agg [.lit (.int .u64 1), .lit (.int .u64 10), .lit (.int .u64 100), .lit (.int .u64 1000), .lit (.int .u64 10000), .lit (.int .u64 100000), .lit (.int .u64 1000000), .lit (.int .u64 10000000), .lit (.int .u64 100000000), .lit (.int .u64 1000000000), .lit (.int .u64 10000000000), .lit (.int .u64 100000000000), .lit (.int .u64 1000000000000), .lit (.int .u64 10000000000000), .lit (.int .u64 100000000000000), .lit (.int .u64 1000000000000000), .lit (.int .u64 10000000000000000), .lit (.int .u64 100000000000000000), .lit (.int .u64 1000000000000000000), .lit (.int .u64 10000000000000000000)]
def laid_unicode_utf8_acceptRanges {H : Type} : DataW H := .agg [.agg [.lit (.int .u8 128), .lit (.int .u8 191)], .agg [.lit (.int .u8 160), .lit (.int .u8 191)], .agg [.lit (.int .u8 128), .lit (.int .u8 159)], .agg [.lit (.int .u8 144), .lit (.int .u8 191)], .agg [.lit (.int .u8 128), .lit (.int .u8 143)], .agg [.lit (.int .u8 0), .lit (.int .u8 0)], .agg [.lit (.int .u8 0), .lit (.int .u8 0)], .agg [.lit (.int .u8 0), .lit (.int .u8 0)], .agg [.lit (.int .u8 0), .lit (.int .u8 0)], .agg [.lit (.int .u8 0), .lit (.int .u8 0)], .agg [.lit (.int .u8 0), .lit (.int .u8 0)], .agg [.lit (.int .u8 0), .lit (.int .u8 0)], .agg [.lit (.int .u8 0), .lit (.int .u8 0)], .agg [.lit (.int .u8 0), .lit (.int .u8 0)], .agg [.lit (.int .u8 0), .lit (.int .u8 0)], .agg [.lit (.int .u8 0), .lit (.int .u8 0)]]
/-- One of Go's own tables, pinned by name: the form's constant. -/
def laid_unicode_utf8_first : DataW Unit := Go.Pinned.utf8First

/-- 'kelirlaw04.CueOnly': WHATEVER THE INPUT: true; the input reads as it did. -/
def cueOnlySpec : ChangeSpec := { name := "cueOnly", fn := fun _ => fun
  | [d1, d2, d3, d4] => { results := [.lit (.bool true)], args := [d1, d2, d3, d4] }
  | _ => none }
def cueOnlyRow : OpenClaim := { program := "ytdhdaadoehbopaagreatdoor", sum := "4a2911568d3d22828a4ed16592fce81d2c45cd81782ec2d9fb27d7ce7397ce43", func := "kelir/kelirlaw04.CueOnly", spec := "cueOnly", inPlace := ["internal/bytealg.CountString", "internal/bytealg.IndexByteString", "internal/bytealg.IndexString", "internal/abi.NoEscape", "internal/bytealg.MakeNoZero"], unfollowed := true, recurses := true, named := ["unicode/utf8.first", "unicode/utf8.acceptRanges", "internal/bytealg.MaxLen", "internal/strconv.uint64pow10", "math/bits.deBruijn32tab", "math/bits.deBruijn64tab"], plainKeys := false, apart := false, laid := [("math/bits.deBruijn32tab", laid_math_bits_deBruijn32tab), ("math/bits.deBruijn64tab", laid_math_bits_deBruijn64tab), ("internal/strconv.uint64pow10", laid_internal_strconv_uint64pow10), ("unicode/utf8.acceptRanges", laid_unicode_utf8_acceptRanges), ("unicode/utf8.first", laid_unicode_utf8_first)] }
def CueOnlySaid : Prop := cueOnlyRow.holds Tryz.pinned (OpenSpec.ofChange cueOnlySpec)

/-- ITS FALSE NEIGHBOUR: 'it returns false'. Refute it at one input. -/
def cueOnlyWrong : ChangeSpec := { name := "cueOnly", fn := fun _ => fun
  | [d1, d2, d3, d4] => { results := [.lit (.bool false)], args := [d1, d2, d3, d4] }
  | _ => none }
def CueOnlyWrongFalsely : Prop := cueOnlyRow.holds Tryz.pinned (OpenSpec.ofChange cueOnlyWrong)

/-- 'kelirlaw04.CueRemains': WHATEVER THE INPUT: true; the input reads as it did. -/
def cueRemainsSpec : ChangeSpec := { name := "cueRemains", fn := fun _ => fun
  | [d1, d2, d3] => { results := [.lit (.bool true)], args := [d1, d2, d3] }
  | _ => none }
def cueRemainsRow : OpenClaim := { program := "ytdhdaadoehbopaagreatdoor", sum := "4a2911568d3d22828a4ed16592fce81d2c45cd81782ec2d9fb27d7ce7397ce43", func := "kelir/kelirlaw04.CueRemains", spec := "cueRemains", inPlace := ["internal/bytealg.CountString", "internal/bytealg.IndexByteString", "internal/bytealg.IndexString", "internal/abi.NoEscape", "internal/bytealg.MakeNoZero"], unfollowed := true, recurses := true, named := ["unicode/utf8.first", "unicode/utf8.acceptRanges", "internal/bytealg.MaxLen", "internal/strconv.uint64pow10", "math/bits.deBruijn32tab", "math/bits.deBruijn64tab"], plainKeys := false, apart := false, laid := [("math/bits.deBruijn32tab", laid_math_bits_deBruijn32tab), ("math/bits.deBruijn64tab", laid_math_bits_deBruijn64tab), ("internal/strconv.uint64pow10", laid_internal_strconv_uint64pow10), ("unicode/utf8.acceptRanges", laid_unicode_utf8_acceptRanges), ("unicode/utf8.first", laid_unicode_utf8_first)] }
def CueRemainsSaid : Prop := cueRemainsRow.holds Tryz.pinned (OpenSpec.ofChange cueRemainsSpec)

/-- ITS FALSE NEIGHBOUR: 'it returns false'. Refute it at one input. -/
def cueRemainsWrong : ChangeSpec := { name := "cueRemains", fn := fun _ => fun
  | [d1, d2, d3] => { results := [.lit (.bool false)], args := [d1, d2, d3] }
  | _ => none }
def CueRemainsWrongFalsely : Prop := cueRemainsRow.holds Tryz.pinned (OpenSpec.ofChange cueRemainsWrong)

/-- 'kelirlaw04.CueTrue': WHATEVER THE INPUT: true; the input reads as it did. -/
def cueTrueSpec : ChangeSpec := { name := "cueTrue", fn := fun _ => fun
  | [d1, d2, d3, d4, d5] => { results := [.lit (.bool true)], args := [d1, d2, d3, d4, d5] }
  | _ => none }
def cueTrueRow : OpenClaim := { program := "ytdhdaadoehbopaagreatdoor", sum := "4a2911568d3d22828a4ed16592fce81d2c45cd81782ec2d9fb27d7ce7397ce43", func := "kelir/kelirlaw04.CueTrue", spec := "cueTrue", inPlace := ["internal/bytealg.CountString", "internal/bytealg.IndexByteString", "internal/bytealg.IndexString", "internal/abi.NoEscape", "internal/bytealg.MakeNoZero"], unfollowed := true, recurses := true, named := ["unicode/utf8.first", "unicode/utf8.acceptRanges", "internal/bytealg.MaxLen", "internal/strconv.uint64pow10", "math/bits.deBruijn32tab", "math/bits.deBruijn64tab"], plainKeys := false, apart := false, laid := [("math/bits.deBruijn32tab", laid_math_bits_deBruijn32tab), ("math/bits.deBruijn64tab", laid_math_bits_deBruijn64tab), ("internal/strconv.uint64pow10", laid_internal_strconv_uint64pow10), ("unicode/utf8.acceptRanges", laid_unicode_utf8_acceptRanges), ("unicode/utf8.first", laid_unicode_utf8_first)] }
def CueTrueSaid : Prop := cueTrueRow.holds Tryz.pinned (OpenSpec.ofChange cueTrueSpec)

/-- ITS FALSE NEIGHBOUR: 'it returns false'. Refute it at one input. -/
def cueTrueWrong : ChangeSpec := { name := "cueTrue", fn := fun _ => fun
  | [d1, d2, d3, d4, d5] => { results := [.lit (.bool false)], args := [d1, d2, d3, d4, d5] }
  | _ => none }
def CueTrueWrongFalsely : Prop := cueTrueRow.holds Tryz.pinned (OpenSpec.ofChange cueTrueWrong)

/-- 'kelirlaw04.CueCounts': WHATEVER THE INPUT: true; the input reads as it did. -/
def cueCountsSpec : ChangeSpec := { name := "cueCounts", fn := fun _ => fun
  | [d1, d2, d3] => { results := [.lit (.bool true)], args := [d1, d2, d3] }
  | _ => none }
def cueCountsRow : OpenClaim := { program := "ytdhdaadoehbopaagreatdoor", sum := "4a2911568d3d22828a4ed16592fce81d2c45cd81782ec2d9fb27d7ce7397ce43", func := "kelir/kelirlaw04.CueCounts", spec := "cueCounts", inPlace := ["internal/bytealg.CountString", "internal/bytealg.IndexByteString", "internal/bytealg.IndexString", "internal/abi.NoEscape", "internal/bytealg.MakeNoZero"], unfollowed := true, recurses := true, named := ["unicode/utf8.first", "unicode/utf8.acceptRanges", "internal/bytealg.MaxLen", "internal/strconv.uint64pow10", "math/bits.deBruijn32tab", "math/bits.deBruijn64tab"], plainKeys := false, apart := false, laid := [("math/bits.deBruijn32tab", laid_math_bits_deBruijn32tab), ("math/bits.deBruijn64tab", laid_math_bits_deBruijn64tab), ("internal/strconv.uint64pow10", laid_internal_strconv_uint64pow10), ("unicode/utf8.acceptRanges", laid_unicode_utf8_acceptRanges), ("unicode/utf8.first", laid_unicode_utf8_first)] }
def CueCountsSaid : Prop := cueCountsRow.holds Tryz.pinned (OpenSpec.ofChange cueCountsSpec)

/-- ITS FALSE NEIGHBOUR: 'it returns false'. Refute it at one input. -/
def cueCountsWrong : ChangeSpec := { name := "cueCounts", fn := fun _ => fun
  | [d1, d2, d3] => { results := [.lit (.bool false)], args := [d1, d2, d3] }
  | _ => none }
def CueCountsWrongFalsely : Prop := cueCountsRow.holds Tryz.pinned (OpenSpec.ofChange cueCountsWrong)

/-- 'kelirlaw04.CueAdds': WHATEVER THE INPUT: true; the input reads as it did. -/
def cueAddsSpec : ChangeSpec := { name := "cueAdds", fn := fun _ => fun
  | [d1, d2, d3, d4, d5] => { results := [.lit (.bool true)], args := [d1, d2, d3, d4, d5] }
  | _ => none }
def cueAddsRow : OpenClaim := { program := "ytdhdaadoehbopaagreatdoor", sum := "4a2911568d3d22828a4ed16592fce81d2c45cd81782ec2d9fb27d7ce7397ce43", func := "kelir/kelirlaw04.CueAdds", spec := "cueAdds", inPlace := ["internal/bytealg.CountString", "internal/bytealg.IndexByteString", "internal/bytealg.IndexString", "internal/abi.NoEscape", "internal/bytealg.MakeNoZero"], unfollowed := true, recurses := true, named := ["unicode/utf8.first", "unicode/utf8.acceptRanges", "internal/bytealg.MaxLen", "internal/strconv.uint64pow10", "math/bits.deBruijn32tab", "math/bits.deBruijn64tab"], plainKeys := false, apart := false, laid := [("math/bits.deBruijn32tab", laid_math_bits_deBruijn32tab), ("math/bits.deBruijn64tab", laid_math_bits_deBruijn64tab), ("internal/strconv.uint64pow10", laid_internal_strconv_uint64pow10), ("unicode/utf8.acceptRanges", laid_unicode_utf8_acceptRanges), ("unicode/utf8.first", laid_unicode_utf8_first)] }
def CueAddsSaid : Prop := cueAddsRow.holds Tryz.pinned (OpenSpec.ofChange cueAddsSpec)

/-- ITS FALSE NEIGHBOUR: 'it returns false'. Refute it at one input. -/
def cueAddsWrong : ChangeSpec := { name := "cueAdds", fn := fun _ => fun
  | [d1, d2, d3, d4, d5] => { results := [.lit (.bool false)], args := [d1, d2, d3, d4, d5] }
  | _ => none }
def CueAddsWrongFalsely : Prop := cueAddsRow.holds Tryz.pinned (OpenSpec.ofChange cueAddsWrong)

/-- 'kelirlaw04.CueTells': WHATEVER THE INPUT: true; the input reads as it did. -/
def cueTellsSpec : ChangeSpec := { name := "cueTells", fn := fun _ => fun
  | [d1, d2, d3] => { results := [.lit (.bool true)], args := [d1, d2, d3] }
  | _ => none }
def cueTellsRow : OpenClaim := { program := "ytdhdaadoehbopaagreatdoor", sum := "4a2911568d3d22828a4ed16592fce81d2c45cd81782ec2d9fb27d7ce7397ce43", func := "kelir/kelirlaw04.CueTells", spec := "cueTells", inPlace := ["internal/bytealg.CountString", "internal/bytealg.IndexByteString", "internal/bytealg.IndexString", "internal/abi.NoEscape", "internal/bytealg.MakeNoZero"], unfollowed := true, recurses := true, named := ["unicode/utf8.first", "unicode/utf8.acceptRanges", "internal/bytealg.MaxLen", "internal/strconv.uint64pow10", "math/bits.deBruijn32tab", "math/bits.deBruijn64tab"], plainKeys := false, apart := false, laid := [("math/bits.deBruijn32tab", laid_math_bits_deBruijn32tab), ("math/bits.deBruijn64tab", laid_math_bits_deBruijn64tab), ("internal/strconv.uint64pow10", laid_internal_strconv_uint64pow10), ("unicode/utf8.acceptRanges", laid_unicode_utf8_acceptRanges), ("unicode/utf8.first", laid_unicode_utf8_first)] }
def CueTellsSaid : Prop := cueTellsRow.holds Tryz.pinned (OpenSpec.ofChange cueTellsSpec)

/-- ITS FALSE NEIGHBOUR: 'it returns false'. Refute it at one input. -/
def cueTellsWrong : ChangeSpec := { name := "cueTells", fn := fun _ => fun
  | [d1, d2, d3] => { results := [.lit (.bool false)], args := [d1, d2, d3] }
  | _ => none }
def CueTellsWrongFalsely : Prop := cueTellsRow.holds Tryz.pinned (OpenSpec.ofChange cueTellsWrong)

/-- 'kelirlaw04.CueApart': WHATEVER THE INPUT: true; the input reads as it did. -/
def cueApartSpec : ChangeSpec := { name := "cueApart", fn := fun _ => fun
  | [d1, d2, d3, d4] => { results := [.lit (.bool true)], args := [d1, d2, d3, d4] }
  | _ => none }
def cueApartRow : OpenClaim := { program := "ytdhdaadoehbopaagreatdoor", sum := "4a2911568d3d22828a4ed16592fce81d2c45cd81782ec2d9fb27d7ce7397ce43", func := "kelir/kelirlaw04.CueApart", spec := "cueApart", inPlace := ["internal/bytealg.CountString", "internal/bytealg.IndexByteString", "internal/bytealg.IndexString", "internal/abi.NoEscape", "internal/bytealg.MakeNoZero"], unfollowed := true, recurses := true, named := ["unicode/utf8.first", "unicode/utf8.acceptRanges", "internal/bytealg.MaxLen", "internal/strconv.uint64pow10", "math/bits.deBruijn32tab", "math/bits.deBruijn64tab"], plainKeys := false, apart := false, laid := [("math/bits.deBruijn32tab", laid_math_bits_deBruijn32tab), ("math/bits.deBruijn64tab", laid_math_bits_deBruijn64tab), ("internal/strconv.uint64pow10", laid_internal_strconv_uint64pow10), ("unicode/utf8.acceptRanges", laid_unicode_utf8_acceptRanges), ("unicode/utf8.first", laid_unicode_utf8_first)] }
def CueApartSaid : Prop := cueApartRow.holds Tryz.pinned (OpenSpec.ofChange cueApartSpec)

/-- ITS FALSE NEIGHBOUR: 'it returns false'. Refute it at one input. -/
def cueApartWrong : ChangeSpec := { name := "cueApart", fn := fun _ => fun
  | [d1, d2, d3, d4] => { results := [.lit (.bool false)], args := [d1, d2, d3, d4] }
  | _ => none }
def CueApartWrongFalsely : Prop := cueApartRow.holds Tryz.pinned (OpenSpec.ofChange cueApartWrong)

/-- 'kelirlaw04.CueSettles': WHATEVER THE INPUT: true; the input reads as it did. -/
def cueSettlesSpec : ChangeSpec := { name := "cueSettles", fn := fun _ => fun
  | [d1, d2] => { results := [.lit (.bool true)], args := [d1, d2] }
  | _ => none }
def cueSettlesRow : OpenClaim := { program := "ytdhdaadoehbopaagreatdoor", sum := "4a2911568d3d22828a4ed16592fce81d2c45cd81782ec2d9fb27d7ce7397ce43", func := "kelir/kelirlaw04.CueSettles", spec := "cueSettles", inPlace := ["internal/bytealg.CountString", "internal/bytealg.IndexByteString", "internal/bytealg.IndexString", "internal/abi.NoEscape", "internal/bytealg.MakeNoZero"], unfollowed := true, recurses := true, named := ["unicode/utf8.first", "unicode/utf8.acceptRanges", "internal/bytealg.MaxLen", "internal/strconv.uint64pow10", "math/bits.deBruijn32tab", "math/bits.deBruijn64tab"], plainKeys := false, apart := false, laid := [("math/bits.deBruijn32tab", laid_math_bits_deBruijn32tab), ("math/bits.deBruijn64tab", laid_math_bits_deBruijn64tab), ("internal/strconv.uint64pow10", laid_internal_strconv_uint64pow10), ("unicode/utf8.acceptRanges", laid_unicode_utf8_acceptRanges), ("unicode/utf8.first", laid_unicode_utf8_first)] }
def CueSettlesSaid : Prop := cueSettlesRow.holds Tryz.pinned (OpenSpec.ofChange cueSettlesSpec)

/-- ITS FALSE NEIGHBOUR: 'it returns false'. Refute it at one input. -/
def cueSettlesWrong : ChangeSpec := { name := "cueSettles", fn := fun _ => fun
  | [d1, d2] => { results := [.lit (.bool false)], args := [d1, d2] }
  | _ => none }
def CueSettlesWrongFalsely : Prop := cueSettlesRow.holds Tryz.pinned (OpenSpec.ofChange cueSettlesWrong)

/-- 'kelirlaw04.CueSettled': WHATEVER THE INPUT: true; the input reads as it did. -/
def cueSettledSpec : ChangeSpec := { name := "cueSettled", fn := fun _ => fun
  | [d1, d2, d3] => { results := [.lit (.bool true)], args := [d1, d2, d3] }
  | _ => none }
def cueSettledRow : OpenClaim := { program := "ytdhdaadoehbopaagreatdoor", sum := "4a2911568d3d22828a4ed16592fce81d2c45cd81782ec2d9fb27d7ce7397ce43", func := "kelir/kelirlaw04.CueSettled", spec := "cueSettled", inPlace := ["internal/bytealg.CountString", "internal/bytealg.IndexByteString", "internal/bytealg.IndexString", "internal/abi.NoEscape", "internal/bytealg.MakeNoZero"], unfollowed := true, recurses := true, named := ["unicode/utf8.first", "unicode/utf8.acceptRanges", "internal/bytealg.MaxLen", "internal/strconv.uint64pow10", "math/bits.deBruijn32tab", "math/bits.deBruijn64tab"], plainKeys := false, apart := false, laid := [("math/bits.deBruijn32tab", laid_math_bits_deBruijn32tab), ("math/bits.deBruijn64tab", laid_math_bits_deBruijn64tab), ("internal/strconv.uint64pow10", laid_internal_strconv_uint64pow10), ("unicode/utf8.acceptRanges", laid_unicode_utf8_acceptRanges), ("unicode/utf8.first", laid_unicode_utf8_first)] }
def CueSettledSaid : Prop := cueSettledRow.holds Tryz.pinned (OpenSpec.ofChange cueSettledSpec)

/-- ITS FALSE NEIGHBOUR: 'it returns false'. Refute it at one input. -/
def cueSettledWrong : ChangeSpec := { name := "cueSettled", fn := fun _ => fun
  | [d1, d2, d3] => { results := [.lit (.bool false)], args := [d1, d2, d3] }
  | _ => none }
def CueSettledWrongFalsely : Prop := cueSettledRow.holds Tryz.pinned (OpenSpec.ofChange cueSettledWrong)

/-- 'kelirlaw04.CueAsks': WHATEVER THE INPUT: true; the input reads as it did. -/
def cueAsksSpec : ChangeSpec := { name := "cueAsks", fn := fun _ => fun
  | [d1, d2, d3] => { results := [.lit (.bool true)], args := [d1, d2, d3] }
  | _ => none }
def cueAsksRow : OpenClaim := { program := "ytdhdaadoehbopaagreatdoor", sum := "4a2911568d3d22828a4ed16592fce81d2c45cd81782ec2d9fb27d7ce7397ce43", func := "kelir/kelirlaw04.CueAsks", spec := "cueAsks", inPlace := ["internal/bytealg.CountString", "internal/bytealg.IndexByteString", "internal/bytealg.IndexString", "internal/abi.NoEscape", "internal/bytealg.MakeNoZero"], unfollowed := true, recurses := true, named := ["unicode/utf8.first", "unicode/utf8.acceptRanges", "internal/bytealg.MaxLen", "internal/strconv.uint64pow10", "math/bits.deBruijn32tab", "math/bits.deBruijn64tab"], plainKeys := false, apart := false, laid := [("math/bits.deBruijn32tab", laid_math_bits_deBruijn32tab), ("math/bits.deBruijn64tab", laid_math_bits_deBruijn64tab), ("internal/strconv.uint64pow10", laid_internal_strconv_uint64pow10), ("unicode/utf8.acceptRanges", laid_unicode_utf8_acceptRanges), ("unicode/utf8.first", laid_unicode_utf8_first)] }
def CueAsksSaid : Prop := cueAsksRow.holds Tryz.pinned (OpenSpec.ofChange cueAsksSpec)

/-- ITS FALSE NEIGHBOUR: 'it returns false'. Refute it at one input. -/
def cueAsksWrong : ChangeSpec := { name := "cueAsks", fn := fun _ => fun
  | [d1, d2, d3] => { results := [.lit (.bool false)], args := [d1, d2, d3] }
  | _ => none }
def CueAsksWrongFalsely : Prop := cueAsksRow.holds Tryz.pinned (OpenSpec.ofChange cueAsksWrong)

/-- 'kelirlaw04.CueGame': WHATEVER THE INPUT: true; the input reads as it did. -/
def cueGameSpec : ChangeSpec := { name := "cueGame", fn := fun _ => fun
  | [d1, d2, d3, d4] => { results := [.lit (.bool true)], args := [d1, d2, d3, d4] }
  | _ => none }
def cueGameRow : OpenClaim := { program := "ytdhdaadoehbopaagreatdoor", sum := "4a2911568d3d22828a4ed16592fce81d2c45cd81782ec2d9fb27d7ce7397ce43", func := "kelir/kelirlaw04.CueGame", spec := "cueGame", inPlace := ["internal/bytealg.CountString", "internal/bytealg.IndexByteString", "internal/bytealg.IndexString", "internal/abi.NoEscape", "internal/bytealg.MakeNoZero"], unfollowed := true, recurses := true, named := ["unicode/utf8.first", "unicode/utf8.acceptRanges", "internal/bytealg.MaxLen", "internal/strconv.uint64pow10", "math/bits.deBruijn32tab", "math/bits.deBruijn64tab"], plainKeys := false, apart := false, laid := [("math/bits.deBruijn32tab", laid_math_bits_deBruijn32tab), ("math/bits.deBruijn64tab", laid_math_bits_deBruijn64tab), ("internal/strconv.uint64pow10", laid_internal_strconv_uint64pow10), ("unicode/utf8.acceptRanges", laid_unicode_utf8_acceptRanges), ("unicode/utf8.first", laid_unicode_utf8_first)] }
def CueGameSaid : Prop := cueGameRow.holds Tryz.pinned (OpenSpec.ofChange cueGameSpec)

/-- ITS FALSE NEIGHBOUR: 'it returns false'. Refute it at one input. -/
def cueGameWrong : ChangeSpec := { name := "cueGame", fn := fun _ => fun
  | [d1, d2, d3, d4] => { results := [.lit (.bool false)], args := [d1, d2, d3, d4] }
  | _ => none }
def CueGameWrongFalsely : Prop := cueGameRow.holds Tryz.pinned (OpenSpec.ofChange cueGameWrong)

/-- 'kelirlaw04.CueJoins': WHATEVER THE INPUT: true; the input reads as it did. -/
def cueJoinsSpec : ChangeSpec := { name := "cueJoins", fn := fun _ => fun
  | [d1, d2] => { results := [.lit (.bool true)], args := [d1, d2] }
  | _ => none }
def cueJoinsRow : OpenClaim := { program := "ytdhdaadoehbopaagreatdoor", sum := "4a2911568d3d22828a4ed16592fce81d2c45cd81782ec2d9fb27d7ce7397ce43", func := "kelir/kelirlaw04.CueJoins", spec := "cueJoins", inPlace := ["internal/bytealg.CountString", "internal/bytealg.IndexByteString", "internal/bytealg.IndexString", "internal/abi.NoEscape", "internal/bytealg.MakeNoZero"], unfollowed := true, recurses := true, named := ["unicode/utf8.first", "unicode/utf8.acceptRanges", "internal/bytealg.MaxLen", "internal/strconv.uint64pow10", "math/bits.deBruijn32tab", "math/bits.deBruijn64tab"], plainKeys := false, apart := false, laid := [("math/bits.deBruijn32tab", laid_math_bits_deBruijn32tab), ("math/bits.deBruijn64tab", laid_math_bits_deBruijn64tab), ("internal/strconv.uint64pow10", laid_internal_strconv_uint64pow10), ("unicode/utf8.acceptRanges", laid_unicode_utf8_acceptRanges), ("unicode/utf8.first", laid_unicode_utf8_first)] }
def CueJoinsSaid : Prop := cueJoinsRow.holds Tryz.pinned (OpenSpec.ofChange cueJoinsSpec)

/-- ITS FALSE NEIGHBOUR: 'it returns false'. Refute it at one input. -/
def cueJoinsWrong : ChangeSpec := { name := "cueJoins", fn := fun _ => fun
  | [d1, d2] => { results := [.lit (.bool false)], args := [d1, d2] }
  | _ => none }
def CueJoinsWrongFalsely : Prop := cueJoinsRow.holds Tryz.pinned (OpenSpec.ofChange cueJoinsWrong)

/-- 'kelirlaw04.CueJoined': WHATEVER THE INPUT: true; the input reads as it did. -/
def cueJoinedSpec : ChangeSpec := { name := "cueJoined", fn := fun _ => fun
  | [d1, d2, d3] => { results := [.lit (.bool true)], args := [d1, d2, d3] }
  | _ => none }
def cueJoinedRow : OpenClaim := { program := "ytdhdaadoehbopaagreatdoor", sum := "4a2911568d3d22828a4ed16592fce81d2c45cd81782ec2d9fb27d7ce7397ce43", func := "kelir/kelirlaw04.CueJoined", spec := "cueJoined", inPlace := ["internal/bytealg.CountString", "internal/bytealg.IndexByteString", "internal/bytealg.IndexString", "internal/abi.NoEscape", "internal/bytealg.MakeNoZero"], unfollowed := true, recurses := true, named := ["unicode/utf8.first", "unicode/utf8.acceptRanges", "internal/bytealg.MaxLen", "internal/strconv.uint64pow10", "math/bits.deBruijn32tab", "math/bits.deBruijn64tab"], plainKeys := false, apart := false, laid := [("math/bits.deBruijn32tab", laid_math_bits_deBruijn32tab), ("math/bits.deBruijn64tab", laid_math_bits_deBruijn64tab), ("internal/strconv.uint64pow10", laid_internal_strconv_uint64pow10), ("unicode/utf8.acceptRanges", laid_unicode_utf8_acceptRanges), ("unicode/utf8.first", laid_unicode_utf8_first)] }
def CueJoinedSaid : Prop := cueJoinedRow.holds Tryz.pinned (OpenSpec.ofChange cueJoinedSpec)

/-- ITS FALSE NEIGHBOUR: 'it returns false'. Refute it at one input. -/
def cueJoinedWrong : ChangeSpec := { name := "cueJoined", fn := fun _ => fun
  | [d1, d2, d3] => { results := [.lit (.bool false)], args := [d1, d2, d3] }
  | _ => none }
def CueJoinedWrongFalsely : Prop := cueJoinedRow.holds Tryz.pinned (OpenSpec.ofChange cueJoinedWrong)

/-- 'kelirlaw04.CueReduces': WHATEVER THE INPUT: true; the input reads as it did. -/
def cueReducesSpec : ChangeSpec := { name := "cueReduces", fn := fun _ => fun
  | [d1, d2] => { results := [.lit (.bool true)], args := [d1, d2] }
  | _ => none }
def cueReducesRow : OpenClaim := { program := "ytdhdaadoehbopaagreatdoor", sum := "4a2911568d3d22828a4ed16592fce81d2c45cd81782ec2d9fb27d7ce7397ce43", func := "kelir/kelirlaw04.CueReduces", spec := "cueReduces", inPlace := ["internal/bytealg.CountString", "internal/bytealg.IndexByteString", "internal/bytealg.IndexString", "internal/abi.NoEscape", "internal/bytealg.MakeNoZero"], unfollowed := true, recurses := true, named := ["unicode/utf8.first", "unicode/utf8.acceptRanges", "internal/bytealg.MaxLen", "internal/strconv.uint64pow10", "math/bits.deBruijn32tab", "math/bits.deBruijn64tab"], plainKeys := false, apart := false, laid := [("math/bits.deBruijn32tab", laid_math_bits_deBruijn32tab), ("math/bits.deBruijn64tab", laid_math_bits_deBruijn64tab), ("internal/strconv.uint64pow10", laid_internal_strconv_uint64pow10), ("unicode/utf8.acceptRanges", laid_unicode_utf8_acceptRanges), ("unicode/utf8.first", laid_unicode_utf8_first)] }
def CueReducesSaid : Prop := cueReducesRow.holds Tryz.pinned (OpenSpec.ofChange cueReducesSpec)

/-- ITS FALSE NEIGHBOUR: 'it returns false'. Refute it at one input. -/
def cueReducesWrong : ChangeSpec := { name := "cueReduces", fn := fun _ => fun
  | [d1, d2] => { results := [.lit (.bool false)], args := [d1, d2] }
  | _ => none }
def CueReducesWrongFalsely : Prop := cueReducesRow.holds Tryz.pinned (OpenSpec.ofChange cueReducesWrong)

/-- 'kelirlaw04.CueLeast': WHATEVER THE INPUT: true; the input reads as it did. -/
def cueLeastSpec : ChangeSpec := { name := "cueLeast", fn := fun _ => fun
  | [d1, d2, d3] => { results := [.lit (.bool true)], args := [d1, d2, d3] }
  | _ => none }
def cueLeastRow : OpenClaim := { program := "ytdhdaadoehbopaagreatdoor", sum := "4a2911568d3d22828a4ed16592fce81d2c45cd81782ec2d9fb27d7ce7397ce43", func := "kelir/kelirlaw04.CueLeast", spec := "cueLeast", inPlace := ["internal/bytealg.CountString", "internal/bytealg.IndexByteString", "internal/bytealg.IndexString", "internal/abi.NoEscape", "internal/bytealg.MakeNoZero"], unfollowed := true, recurses := true, named := ["unicode/utf8.first", "unicode/utf8.acceptRanges", "internal/bytealg.MaxLen", "internal/strconv.uint64pow10", "math/bits.deBruijn32tab", "math/bits.deBruijn64tab"], plainKeys := false, apart := false, laid := [("math/bits.deBruijn32tab", laid_math_bits_deBruijn32tab), ("math/bits.deBruijn64tab", laid_math_bits_deBruijn64tab), ("internal/strconv.uint64pow10", laid_internal_strconv_uint64pow10), ("unicode/utf8.acceptRanges", laid_unicode_utf8_acceptRanges), ("unicode/utf8.first", laid_unicode_utf8_first)] }
def CueLeastSaid : Prop := cueLeastRow.holds Tryz.pinned (OpenSpec.ofChange cueLeastSpec)

/-- ITS FALSE NEIGHBOUR: 'it returns false'. Refute it at one input. -/
def cueLeastWrong : ChangeSpec := { name := "cueLeast", fn := fun _ => fun
  | [d1, d2, d3] => { results := [.lit (.bool false)], args := [d1, d2, d3] }
  | _ => none }
def CueLeastWrongFalsely : Prop := cueLeastRow.holds Tryz.pinned (OpenSpec.ofChange cueLeastWrong)

/-- 'kelirlaw04.CueMishears': WHATEVER THE INPUT: true; the input reads as it did. -/
def cueMishearsSpec : ChangeSpec := { name := "cueMishears", fn := fun _ => fun
  | [d1, d2, d3, d4] => { results := [.lit (.bool true)], args := [d1, d2, d3, d4] }
  | _ => none }
def cueMishearsRow : OpenClaim := { program := "ytdhdaadoehbopaagreatdoor", sum := "4a2911568d3d22828a4ed16592fce81d2c45cd81782ec2d9fb27d7ce7397ce43", func := "kelir/kelirlaw04.CueMishears", spec := "cueMishears", inPlace := ["internal/bytealg.CountString", "internal/bytealg.IndexByteString", "internal/bytealg.IndexString", "internal/abi.NoEscape", "internal/bytealg.MakeNoZero"], unfollowed := true, recurses := true, named := ["unicode/utf8.first", "unicode/utf8.acceptRanges", "internal/bytealg.MaxLen", "internal/strconv.uint64pow10", "math/bits.deBruijn32tab", "math/bits.deBruijn64tab"], plainKeys := false, apart := false, laid := [("math/bits.deBruijn32tab", laid_math_bits_deBruijn32tab), ("math/bits.deBruijn64tab", laid_math_bits_deBruijn64tab), ("internal/strconv.uint64pow10", laid_internal_strconv_uint64pow10), ("unicode/utf8.acceptRanges", laid_unicode_utf8_acceptRanges), ("unicode/utf8.first", laid_unicode_utf8_first)] }
def CueMishearsSaid : Prop := cueMishearsRow.holds Tryz.pinned (OpenSpec.ofChange cueMishearsSpec)

/-- ITS FALSE NEIGHBOUR: 'it returns false'. Refute it at one input. -/
def cueMishearsWrong : ChangeSpec := { name := "cueMishears", fn := fun _ => fun
  | [d1, d2, d3, d4] => { results := [.lit (.bool false)], args := [d1, d2, d3, d4] }
  | _ => none }
def CueMishearsWrongFalsely : Prop := cueMishearsRow.holds Tryz.pinned (OpenSpec.ofChange cueMishearsWrong)

/-- 'kelirlaw04.CueHeard': WHATEVER THE INPUT: true; the input reads as it did. -/
def cueHeardSpec : ChangeSpec := { name := "cueHeard", fn := fun _ => fun
  | [d1, d2, d3, d4, d5] => { results := [.lit (.bool true)], args := [d1, d2, d3, d4, d5] }
  | _ => none }
def cueHeardRow : OpenClaim := { program := "ytdhdaadoehbopaagreatdoor", sum := "4a2911568d3d22828a4ed16592fce81d2c45cd81782ec2d9fb27d7ce7397ce43", func := "kelir/kelirlaw04.CueHeard", spec := "cueHeard", inPlace := ["internal/bytealg.CountString", "internal/bytealg.IndexByteString", "internal/bytealg.IndexString", "internal/abi.NoEscape", "internal/bytealg.MakeNoZero"], unfollowed := true, recurses := true, named := ["unicode/utf8.first", "unicode/utf8.acceptRanges", "internal/bytealg.MaxLen", "internal/strconv.uint64pow10", "math/bits.deBruijn32tab", "math/bits.deBruijn64tab"], plainKeys := false, apart := false, laid := [("math/bits.deBruijn32tab", laid_math_bits_deBruijn32tab), ("math/bits.deBruijn64tab", laid_math_bits_deBruijn64tab), ("internal/strconv.uint64pow10", laid_internal_strconv_uint64pow10), ("unicode/utf8.acceptRanges", laid_unicode_utf8_acceptRanges), ("unicode/utf8.first", laid_unicode_utf8_first)] }
def CueHeardSaid : Prop := cueHeardRow.holds Tryz.pinned (OpenSpec.ofChange cueHeardSpec)

/-- ITS FALSE NEIGHBOUR: 'it returns false'. Refute it at one input. -/
def cueHeardWrong : ChangeSpec := { name := "cueHeard", fn := fun _ => fun
  | [d1, d2, d3, d4, d5] => { results := [.lit (.bool false)], args := [d1, d2, d3, d4, d5] }
  | _ => none }
def CueHeardWrongFalsely : Prop := cueHeardRow.holds Tryz.pinned (OpenSpec.ofChange cueHeardWrong)

/-- 'kelirlaw04.CueNevers': WHATEVER THE INPUT: true; the input reads as it did. -/
def cueNeversSpec : ChangeSpec := { name := "cueNevers", fn := fun _ => fun
  | [d1, d2, d3, d4, d5] => { results := [.lit (.bool true)], args := [d1, d2, d3, d4, d5] }
  | _ => none }
def cueNeversRow : OpenClaim := { program := "ytdhdaadoehbopaagreatdoor", sum := "4a2911568d3d22828a4ed16592fce81d2c45cd81782ec2d9fb27d7ce7397ce43", func := "kelir/kelirlaw04.CueNevers", spec := "cueNevers", inPlace := ["internal/bytealg.CountString", "internal/bytealg.IndexByteString", "internal/bytealg.IndexString", "internal/abi.NoEscape", "internal/bytealg.MakeNoZero"], unfollowed := true, recurses := true, named := ["unicode/utf8.first", "unicode/utf8.acceptRanges", "internal/bytealg.MaxLen", "internal/strconv.uint64pow10", "math/bits.deBruijn32tab", "math/bits.deBruijn64tab"], plainKeys := false, apart := false, laid := [("math/bits.deBruijn32tab", laid_math_bits_deBruijn32tab), ("math/bits.deBruijn64tab", laid_math_bits_deBruijn64tab), ("internal/strconv.uint64pow10", laid_internal_strconv_uint64pow10), ("unicode/utf8.acceptRanges", laid_unicode_utf8_acceptRanges), ("unicode/utf8.first", laid_unicode_utf8_first)] }
def CueNeversSaid : Prop := cueNeversRow.holds Tryz.pinned (OpenSpec.ofChange cueNeversSpec)

/-- ITS FALSE NEIGHBOUR: 'it returns false'. Refute it at one input. -/
def cueNeversWrong : ChangeSpec := { name := "cueNevers", fn := fun _ => fun
  | [d1, d2, d3, d4, d5] => { results := [.lit (.bool false)], args := [d1, d2, d3, d4, d5] }
  | _ => none }
def CueNeversWrongFalsely : Prop := cueNeversRow.holds Tryz.pinned (OpenSpec.ofChange cueNeversWrong)

/-- 'kelirlaw04.CueFenced': WHATEVER THE INPUT: true; the input reads as it did. -/
def cueFencedSpec : ChangeSpec := { name := "cueFenced", fn := fun _ => fun
  | [d1, d2, d3, d4, d5] => { results := [.lit (.bool true)], args := [d1, d2, d3, d4, d5] }
  | _ => none }
def cueFencedRow : OpenClaim := { program := "ytdhdaadoehbopaagreatdoor", sum := "4a2911568d3d22828a4ed16592fce81d2c45cd81782ec2d9fb27d7ce7397ce43", func := "kelir/kelirlaw04.CueFenced", spec := "cueFenced", inPlace := ["internal/bytealg.CountString", "internal/bytealg.IndexByteString", "internal/bytealg.IndexString", "internal/abi.NoEscape", "internal/bytealg.MakeNoZero"], unfollowed := true, recurses := true, named := ["unicode/utf8.first", "unicode/utf8.acceptRanges", "internal/bytealg.MaxLen", "internal/strconv.uint64pow10", "math/bits.deBruijn32tab", "math/bits.deBruijn64tab"], plainKeys := false, apart := false, laid := [("math/bits.deBruijn32tab", laid_math_bits_deBruijn32tab), ("math/bits.deBruijn64tab", laid_math_bits_deBruijn64tab), ("internal/strconv.uint64pow10", laid_internal_strconv_uint64pow10), ("unicode/utf8.acceptRanges", laid_unicode_utf8_acceptRanges), ("unicode/utf8.first", laid_unicode_utf8_first)] }
def CueFencedSaid : Prop := cueFencedRow.holds Tryz.pinned (OpenSpec.ofChange cueFencedSpec)

/-- ITS FALSE NEIGHBOUR: 'it returns false'. Refute it at one input. -/
def cueFencedWrong : ChangeSpec := { name := "cueFenced", fn := fun _ => fun
  | [d1, d2, d3, d4, d5] => { results := [.lit (.bool false)], args := [d1, d2, d3, d4, d5] }
  | _ => none }
def CueFencedWrongFalsely : Prop := cueFencedRow.holds Tryz.pinned (OpenSpec.ofChange cueFencedWrong)

/-- 'kelirlaw04.CueMore': WHATEVER THE INPUT: true; the input reads as it did. -/
def cueMoreSpec : ChangeSpec := { name := "cueMore", fn := fun _ => fun
  | [d1, d2, d3, d4, d5] => { results := [.lit (.bool true)], args := [d1, d2, d3, d4, d5] }
  | _ => none }
def cueMoreRow : OpenClaim := { program := "ytdhdaadoehbopaagreatdoor", sum := "4a2911568d3d22828a4ed16592fce81d2c45cd81782ec2d9fb27d7ce7397ce43", func := "kelir/kelirlaw04.CueMore", spec := "cueMore", inPlace := ["internal/bytealg.CountString", "internal/bytealg.IndexByteString", "internal/bytealg.IndexString", "internal/abi.NoEscape", "internal/bytealg.MakeNoZero"], unfollowed := true, recurses := true, named := ["unicode/utf8.first", "unicode/utf8.acceptRanges", "internal/bytealg.MaxLen", "internal/strconv.uint64pow10", "math/bits.deBruijn32tab", "math/bits.deBruijn64tab"], plainKeys := false, apart := false, laid := [("math/bits.deBruijn32tab", laid_math_bits_deBruijn32tab), ("math/bits.deBruijn64tab", laid_math_bits_deBruijn64tab), ("internal/strconv.uint64pow10", laid_internal_strconv_uint64pow10), ("unicode/utf8.acceptRanges", laid_unicode_utf8_acceptRanges), ("unicode/utf8.first", laid_unicode_utf8_first)] }
def CueMoreSaid : Prop := cueMoreRow.holds Tryz.pinned (OpenSpec.ofChange cueMoreSpec)

/-- ITS FALSE NEIGHBOUR: 'it returns false'. Refute it at one input. -/
def cueMoreWrong : ChangeSpec := { name := "cueMore", fn := fun _ => fun
  | [d1, d2, d3, d4, d5] => { results := [.lit (.bool false)], args := [d1, d2, d3, d4, d5] }
  | _ => none }
def CueMoreWrongFalsely : Prop := cueMoreRow.holds Tryz.pinned (OpenSpec.ofChange cueMoreWrong)

/-- 'kelirlaw04.CuePlays': WHATEVER THE INPUT: true; the input reads as it did. -/
def cuePlaysSpec : ChangeSpec := { name := "cuePlays", fn := fun _ => fun
  | [d1, d2, d3] => { results := [.lit (.bool true)], args := [d1, d2, d3] }
  | _ => none }
def cuePlaysRow : OpenClaim := { program := "ytdhdaadoehbopaagreatdoor", sum := "4a2911568d3d22828a4ed16592fce81d2c45cd81782ec2d9fb27d7ce7397ce43", func := "kelir/kelirlaw04.CuePlays", spec := "cuePlays", inPlace := ["internal/bytealg.CountString", "internal/bytealg.IndexByteString", "internal/bytealg.IndexString", "internal/abi.NoEscape", "internal/bytealg.MakeNoZero"], unfollowed := true, recurses := true, named := ["unicode/utf8.first", "unicode/utf8.acceptRanges", "internal/bytealg.MaxLen", "internal/strconv.uint64pow10", "math/bits.deBruijn32tab", "math/bits.deBruijn64tab"], plainKeys := false, apart := false, laid := [("math/bits.deBruijn32tab", laid_math_bits_deBruijn32tab), ("math/bits.deBruijn64tab", laid_math_bits_deBruijn64tab), ("internal/strconv.uint64pow10", laid_internal_strconv_uint64pow10), ("unicode/utf8.acceptRanges", laid_unicode_utf8_acceptRanges), ("unicode/utf8.first", laid_unicode_utf8_first)] }
def CuePlaysSaid : Prop := cuePlaysRow.holds Tryz.pinned (OpenSpec.ofChange cuePlaysSpec)

/-- ITS FALSE NEIGHBOUR: 'it returns false'. Refute it at one input. -/
def cuePlaysWrong : ChangeSpec := { name := "cuePlays", fn := fun _ => fun
  | [d1, d2, d3] => { results := [.lit (.bool false)], args := [d1, d2, d3] }
  | _ => none }
def CuePlaysWrongFalsely : Prop := cuePlaysRow.holds Tryz.pinned (OpenSpec.ofChange cuePlaysWrong)

/-- 'kelirlaw04.CuePrints': WHATEVER THE INPUT: true; the input reads as it did. -/
def cuePrintsSpec : ChangeSpec := { name := "cuePrints", fn := fun _ => fun
  | [d] => { results := [.lit (.bool true)], args := [d] }
  | _ => none }
def cuePrintsRow : OpenClaim := { program := "ytdhdaadoehbopaagreatdoor", sum := "4a2911568d3d22828a4ed16592fce81d2c45cd81782ec2d9fb27d7ce7397ce43", func := "kelir/kelirlaw04.CuePrints", spec := "cuePrints", inPlace := ["internal/bytealg.CountString", "internal/bytealg.IndexByteString", "internal/bytealg.IndexString", "internal/abi.NoEscape", "internal/bytealg.MakeNoZero"], unfollowed := true, recurses := true, named := ["unicode/utf8.first", "unicode/utf8.acceptRanges", "internal/bytealg.MaxLen", "internal/strconv.uint64pow10", "math/bits.deBruijn32tab", "math/bits.deBruijn64tab"], plainKeys := false, apart := false, laid := [("math/bits.deBruijn32tab", laid_math_bits_deBruijn32tab), ("math/bits.deBruijn64tab", laid_math_bits_deBruijn64tab), ("internal/strconv.uint64pow10", laid_internal_strconv_uint64pow10), ("unicode/utf8.acceptRanges", laid_unicode_utf8_acceptRanges), ("unicode/utf8.first", laid_unicode_utf8_first)] }
def CuePrintsSaid : Prop := cuePrintsRow.holds Tryz.pinned (OpenSpec.ofChange cuePrintsSpec)

/-- ITS FALSE NEIGHBOUR: 'it returns false'. Refute it at one input. -/
def cuePrintsWrong : ChangeSpec := { name := "cuePrints", fn := fun _ => fun
  | [d] => { results := [.lit (.bool false)], args := [d] }
  | _ => none }
def CuePrintsWrongFalsely : Prop := cuePrintsRow.holds Tryz.pinned (OpenSpec.ofChange cuePrintsWrong)

/-- 'kelirlaw04.CueReads': WHATEVER THE INPUT: true; the input reads as it did. -/
def cueReadsSpec : ChangeSpec := { name := "cueReads", fn := fun _ => fun
  | [d] => { results := [.lit (.bool true)], args := [d] }
  | _ => none }
def cueReadsRow : OpenClaim := { program := "ytdhdaadoehbopaagreatdoor", sum := "4a2911568d3d22828a4ed16592fce81d2c45cd81782ec2d9fb27d7ce7397ce43", func := "kelir/kelirlaw04.CueReads", spec := "cueReads", inPlace := ["internal/bytealg.CountString", "internal/bytealg.IndexByteString", "internal/bytealg.IndexString", "internal/abi.NoEscape", "internal/bytealg.MakeNoZero"], unfollowed := true, recurses := true, named := ["unicode/utf8.first", "unicode/utf8.acceptRanges", "internal/bytealg.MaxLen", "internal/strconv.uint64pow10", "math/bits.deBruijn32tab", "math/bits.deBruijn64tab"], plainKeys := false, apart := false, laid := [("math/bits.deBruijn32tab", laid_math_bits_deBruijn32tab), ("math/bits.deBruijn64tab", laid_math_bits_deBruijn64tab), ("internal/strconv.uint64pow10", laid_internal_strconv_uint64pow10), ("unicode/utf8.acceptRanges", laid_unicode_utf8_acceptRanges), ("unicode/utf8.first", laid_unicode_utf8_first)] }
def CueReadsSaid : Prop := cueReadsRow.holds Tryz.pinned (OpenSpec.ofChange cueReadsSpec)

/-- ITS FALSE NEIGHBOUR: 'it returns false'. Refute it at one input. -/
def cueReadsWrong : ChangeSpec := { name := "cueReads", fn := fun _ => fun
  | [d] => { results := [.lit (.bool false)], args := [d] }
  | _ => none }
def CueReadsWrongFalsely : Prop := cueReadsRow.holds Tryz.pinned (OpenSpec.ofChange cueReadsWrong)

/-- 'kelirlaw04.CueSpoilt': WHATEVER THE INPUT: true; the input reads as it did. -/
def cueSpoiltSpec : ChangeSpec := { name := "cueSpoilt", fn := fun _ => fun
  | [d1, d2, d3] => { results := [.lit (.bool true)], args := [d1, d2, d3] }
  | _ => none }
def cueSpoiltRow : OpenClaim := { program := "ytdhdaadoehbopaagreatdoor", sum := "4a2911568d3d22828a4ed16592fce81d2c45cd81782ec2d9fb27d7ce7397ce43", func := "kelir/kelirlaw04.CueSpoilt", spec := "cueSpoilt", inPlace := ["internal/bytealg.CountString", "internal/bytealg.IndexByteString", "internal/bytealg.IndexString", "internal/abi.NoEscape", "internal/bytealg.MakeNoZero"], unfollowed := true, recurses := true, named := ["unicode/utf8.first", "unicode/utf8.acceptRanges", "internal/bytealg.MaxLen", "internal/strconv.uint64pow10", "math/bits.deBruijn32tab", "math/bits.deBruijn64tab"], plainKeys := false, apart := false, laid := [("math/bits.deBruijn32tab", laid_math_bits_deBruijn32tab), ("math/bits.deBruijn64tab", laid_math_bits_deBruijn64tab), ("internal/strconv.uint64pow10", laid_internal_strconv_uint64pow10), ("unicode/utf8.acceptRanges", laid_unicode_utf8_acceptRanges), ("unicode/utf8.first", laid_unicode_utf8_first)] }
def CueSpoiltSaid : Prop := cueSpoiltRow.holds Tryz.pinned (OpenSpec.ofChange cueSpoiltSpec)

/-- ITS FALSE NEIGHBOUR: 'it returns false'. Refute it at one input. -/
def cueSpoiltWrong : ChangeSpec := { name := "cueSpoilt", fn := fun _ => fun
  | [d1, d2, d3] => { results := [.lit (.bool false)], args := [d1, d2, d3] }
  | _ => none }
def CueSpoiltWrongFalsely : Prop := cueSpoiltRow.holds Tryz.pinned (OpenSpec.ofChange cueSpoiltWrong)

/- THE SECOND FORM. 'bulk': how many values and letters a reading holds, each counted each time it is reached (what is shared counts as often as it is met; a slice's spare places count too). A statement '..UptoSaid' is the law's where the arguments, and the package variables that the reading takes, are together of bulk at most 1048576: NARROWER than '..Said'. Prove '..Said' where nothing that the law and all that it calls make is longer than what came in: it says more and counts as full. Else prove '..UptoSaid'. A law counts once. -/
mutual
def uptoBulk {H : Type} : DataW H → Nat
  | .lit (.string bytes) => bytes.length + 1
  | .lit _ => 1
  | .nil => 1
  | .ptr d => uptoBulk d + 1
  | .slice elems spare => uptoBulkAll elems + uptoBulkAll spare + 1
  | .agg parts => uptoBulkAll parts + 1
  | .iface _ d => uptoBulk d + 1
  | .map entries => uptoBulkEntries entries + 1
  | .held _ => 1
def uptoBulkAll {H : Type} : List (DataW H) → Nat
  | [] => 0
  | d :: r => uptoBulk d + uptoBulkAll r
def uptoBulkEntries {H : Type} : List (Lit × DataW H) → Nat
  | [] => 0
  | x :: r => uptoBulkEntry x + uptoBulkEntries r
def uptoBulkEntry {H : Type} : Lit × DataW H → Nat
  | (.string bytes, d) => bytes.length + uptoBulk d + 1
  | (_, d) => uptoBulk d + 1
 end
def uptoSmall : (H : Type) → List (DataW H) → Bool := fun _ ds => decide (uptoBulkAll ds ≤ 1048576)
def OpenSpec.upto (s : _root_.Go.ChangeSpec) : _root_.Go.OpenSpec := { _root_.Go.OpenSpec.ofChange s with cond := some uptoSmall }

/-- 'kelirlaw04.CueOnly', WHERE WHAT IT READS IS OF BULK AT MOST 1048576: true; the input reads as it did. -/
def cueOnlyUptoRow : OpenClaim := { program := "ytdhdaadoehbopaagreatdoor", sum := "4a2911568d3d22828a4ed16592fce81d2c45cd81782ec2d9fb27d7ce7397ce43", func := "kelir/kelirlaw04.CueOnly", spec := "cueOnly", inPlace := ["internal/bytealg.CountString", "internal/bytealg.IndexByteString", "internal/bytealg.IndexString", "internal/abi.NoEscape", "internal/bytealg.MakeNoZero"], unfollowed := true, recurses := true, named := ["unicode/utf8.first", "unicode/utf8.acceptRanges", "internal/bytealg.MaxLen", "internal/strconv.uint64pow10", "math/bits.deBruijn32tab", "math/bits.deBruijn64tab"], plainKeys := false, apart := false, laid := [("math/bits.deBruijn32tab", laid_math_bits_deBruijn32tab), ("math/bits.deBruijn64tab", laid_math_bits_deBruijn64tab), ("internal/strconv.uint64pow10", laid_internal_strconv_uint64pow10), ("unicode/utf8.acceptRanges", laid_unicode_utf8_acceptRanges), ("unicode/utf8.first", laid_unicode_utf8_first)], narrowed := true }
def CueOnlyUptoSaid : Prop := cueOnlyUptoRow.holds Tryz.pinned (OpenSpec.upto cueOnlySpec)

/-- 'kelirlaw04.CueRemains', WHERE WHAT IT READS IS OF BULK AT MOST 1048576: true; the input reads as it did. -/
def cueRemainsUptoRow : OpenClaim := { program := "ytdhdaadoehbopaagreatdoor", sum := "4a2911568d3d22828a4ed16592fce81d2c45cd81782ec2d9fb27d7ce7397ce43", func := "kelir/kelirlaw04.CueRemains", spec := "cueRemains", inPlace := ["internal/bytealg.CountString", "internal/bytealg.IndexByteString", "internal/bytealg.IndexString", "internal/abi.NoEscape", "internal/bytealg.MakeNoZero"], unfollowed := true, recurses := true, named := ["unicode/utf8.first", "unicode/utf8.acceptRanges", "internal/bytealg.MaxLen", "internal/strconv.uint64pow10", "math/bits.deBruijn32tab", "math/bits.deBruijn64tab"], plainKeys := false, apart := false, laid := [("math/bits.deBruijn32tab", laid_math_bits_deBruijn32tab), ("math/bits.deBruijn64tab", laid_math_bits_deBruijn64tab), ("internal/strconv.uint64pow10", laid_internal_strconv_uint64pow10), ("unicode/utf8.acceptRanges", laid_unicode_utf8_acceptRanges), ("unicode/utf8.first", laid_unicode_utf8_first)], narrowed := true }
def CueRemainsUptoSaid : Prop := cueRemainsUptoRow.holds Tryz.pinned (OpenSpec.upto cueRemainsSpec)

/-- 'kelirlaw04.CueTrue', WHERE WHAT IT READS IS OF BULK AT MOST 1048576: true; the input reads as it did. -/
def cueTrueUptoRow : OpenClaim := { program := "ytdhdaadoehbopaagreatdoor", sum := "4a2911568d3d22828a4ed16592fce81d2c45cd81782ec2d9fb27d7ce7397ce43", func := "kelir/kelirlaw04.CueTrue", spec := "cueTrue", inPlace := ["internal/bytealg.CountString", "internal/bytealg.IndexByteString", "internal/bytealg.IndexString", "internal/abi.NoEscape", "internal/bytealg.MakeNoZero"], unfollowed := true, recurses := true, named := ["unicode/utf8.first", "unicode/utf8.acceptRanges", "internal/bytealg.MaxLen", "internal/strconv.uint64pow10", "math/bits.deBruijn32tab", "math/bits.deBruijn64tab"], plainKeys := false, apart := false, laid := [("math/bits.deBruijn32tab", laid_math_bits_deBruijn32tab), ("math/bits.deBruijn64tab", laid_math_bits_deBruijn64tab), ("internal/strconv.uint64pow10", laid_internal_strconv_uint64pow10), ("unicode/utf8.acceptRanges", laid_unicode_utf8_acceptRanges), ("unicode/utf8.first", laid_unicode_utf8_first)], narrowed := true }
def CueTrueUptoSaid : Prop := cueTrueUptoRow.holds Tryz.pinned (OpenSpec.upto cueTrueSpec)

/-- 'kelirlaw04.CueCounts', WHERE WHAT IT READS IS OF BULK AT MOST 1048576: true; the input reads as it did. -/
def cueCountsUptoRow : OpenClaim := { program := "ytdhdaadoehbopaagreatdoor", sum := "4a2911568d3d22828a4ed16592fce81d2c45cd81782ec2d9fb27d7ce7397ce43", func := "kelir/kelirlaw04.CueCounts", spec := "cueCounts", inPlace := ["internal/bytealg.CountString", "internal/bytealg.IndexByteString", "internal/bytealg.IndexString", "internal/abi.NoEscape", "internal/bytealg.MakeNoZero"], unfollowed := true, recurses := true, named := ["unicode/utf8.first", "unicode/utf8.acceptRanges", "internal/bytealg.MaxLen", "internal/strconv.uint64pow10", "math/bits.deBruijn32tab", "math/bits.deBruijn64tab"], plainKeys := false, apart := false, laid := [("math/bits.deBruijn32tab", laid_math_bits_deBruijn32tab), ("math/bits.deBruijn64tab", laid_math_bits_deBruijn64tab), ("internal/strconv.uint64pow10", laid_internal_strconv_uint64pow10), ("unicode/utf8.acceptRanges", laid_unicode_utf8_acceptRanges), ("unicode/utf8.first", laid_unicode_utf8_first)], narrowed := true }
def CueCountsUptoSaid : Prop := cueCountsUptoRow.holds Tryz.pinned (OpenSpec.upto cueCountsSpec)

/-- 'kelirlaw04.CueAdds', WHERE WHAT IT READS IS OF BULK AT MOST 1048576: true; the input reads as it did. -/
def cueAddsUptoRow : OpenClaim := { program := "ytdhdaadoehbopaagreatdoor", sum := "4a2911568d3d22828a4ed16592fce81d2c45cd81782ec2d9fb27d7ce7397ce43", func := "kelir/kelirlaw04.CueAdds", spec := "cueAdds", inPlace := ["internal/bytealg.CountString", "internal/bytealg.IndexByteString", "internal/bytealg.IndexString", "internal/abi.NoEscape", "internal/bytealg.MakeNoZero"], unfollowed := true, recurses := true, named := ["unicode/utf8.first", "unicode/utf8.acceptRanges", "internal/bytealg.MaxLen", "internal/strconv.uint64pow10", "math/bits.deBruijn32tab", "math/bits.deBruijn64tab"], plainKeys := false, apart := false, laid := [("math/bits.deBruijn32tab", laid_math_bits_deBruijn32tab), ("math/bits.deBruijn64tab", laid_math_bits_deBruijn64tab), ("internal/strconv.uint64pow10", laid_internal_strconv_uint64pow10), ("unicode/utf8.acceptRanges", laid_unicode_utf8_acceptRanges), ("unicode/utf8.first", laid_unicode_utf8_first)], narrowed := true }
def CueAddsUptoSaid : Prop := cueAddsUptoRow.holds Tryz.pinned (OpenSpec.upto cueAddsSpec)

/-- 'kelirlaw04.CueTells', WHERE WHAT IT READS IS OF BULK AT MOST 1048576: true; the input reads as it did. -/
def cueTellsUptoRow : OpenClaim := { program := "ytdhdaadoehbopaagreatdoor", sum := "4a2911568d3d22828a4ed16592fce81d2c45cd81782ec2d9fb27d7ce7397ce43", func := "kelir/kelirlaw04.CueTells", spec := "cueTells", inPlace := ["internal/bytealg.CountString", "internal/bytealg.IndexByteString", "internal/bytealg.IndexString", "internal/abi.NoEscape", "internal/bytealg.MakeNoZero"], unfollowed := true, recurses := true, named := ["unicode/utf8.first", "unicode/utf8.acceptRanges", "internal/bytealg.MaxLen", "internal/strconv.uint64pow10", "math/bits.deBruijn32tab", "math/bits.deBruijn64tab"], plainKeys := false, apart := false, laid := [("math/bits.deBruijn32tab", laid_math_bits_deBruijn32tab), ("math/bits.deBruijn64tab", laid_math_bits_deBruijn64tab), ("internal/strconv.uint64pow10", laid_internal_strconv_uint64pow10), ("unicode/utf8.acceptRanges", laid_unicode_utf8_acceptRanges), ("unicode/utf8.first", laid_unicode_utf8_first)], narrowed := true }
def CueTellsUptoSaid : Prop := cueTellsUptoRow.holds Tryz.pinned (OpenSpec.upto cueTellsSpec)

/-- 'kelirlaw04.CueApart', WHERE WHAT IT READS IS OF BULK AT MOST 1048576: true; the input reads as it did. -/
def cueApartUptoRow : OpenClaim := { program := "ytdhdaadoehbopaagreatdoor", sum := "4a2911568d3d22828a4ed16592fce81d2c45cd81782ec2d9fb27d7ce7397ce43", func := "kelir/kelirlaw04.CueApart", spec := "cueApart", inPlace := ["internal/bytealg.CountString", "internal/bytealg.IndexByteString", "internal/bytealg.IndexString", "internal/abi.NoEscape", "internal/bytealg.MakeNoZero"], unfollowed := true, recurses := true, named := ["unicode/utf8.first", "unicode/utf8.acceptRanges", "internal/bytealg.MaxLen", "internal/strconv.uint64pow10", "math/bits.deBruijn32tab", "math/bits.deBruijn64tab"], plainKeys := false, apart := false, laid := [("math/bits.deBruijn32tab", laid_math_bits_deBruijn32tab), ("math/bits.deBruijn64tab", laid_math_bits_deBruijn64tab), ("internal/strconv.uint64pow10", laid_internal_strconv_uint64pow10), ("unicode/utf8.acceptRanges", laid_unicode_utf8_acceptRanges), ("unicode/utf8.first", laid_unicode_utf8_first)], narrowed := true }
def CueApartUptoSaid : Prop := cueApartUptoRow.holds Tryz.pinned (OpenSpec.upto cueApartSpec)

/-- 'kelirlaw04.CueSettles', WHERE WHAT IT READS IS OF BULK AT MOST 1048576: true; the input reads as it did. -/
def cueSettlesUptoRow : OpenClaim := { program := "ytdhdaadoehbopaagreatdoor", sum := "4a2911568d3d22828a4ed16592fce81d2c45cd81782ec2d9fb27d7ce7397ce43", func := "kelir/kelirlaw04.CueSettles", spec := "cueSettles", inPlace := ["internal/bytealg.CountString", "internal/bytealg.IndexByteString", "internal/bytealg.IndexString", "internal/abi.NoEscape", "internal/bytealg.MakeNoZero"], unfollowed := true, recurses := true, named := ["unicode/utf8.first", "unicode/utf8.acceptRanges", "internal/bytealg.MaxLen", "internal/strconv.uint64pow10", "math/bits.deBruijn32tab", "math/bits.deBruijn64tab"], plainKeys := false, apart := false, laid := [("math/bits.deBruijn32tab", laid_math_bits_deBruijn32tab), ("math/bits.deBruijn64tab", laid_math_bits_deBruijn64tab), ("internal/strconv.uint64pow10", laid_internal_strconv_uint64pow10), ("unicode/utf8.acceptRanges", laid_unicode_utf8_acceptRanges), ("unicode/utf8.first", laid_unicode_utf8_first)], narrowed := true }
def CueSettlesUptoSaid : Prop := cueSettlesUptoRow.holds Tryz.pinned (OpenSpec.upto cueSettlesSpec)

/-- 'kelirlaw04.CueSettled', WHERE WHAT IT READS IS OF BULK AT MOST 1048576: true; the input reads as it did. -/
def cueSettledUptoRow : OpenClaim := { program := "ytdhdaadoehbopaagreatdoor", sum := "4a2911568d3d22828a4ed16592fce81d2c45cd81782ec2d9fb27d7ce7397ce43", func := "kelir/kelirlaw04.CueSettled", spec := "cueSettled", inPlace := ["internal/bytealg.CountString", "internal/bytealg.IndexByteString", "internal/bytealg.IndexString", "internal/abi.NoEscape", "internal/bytealg.MakeNoZero"], unfollowed := true, recurses := true, named := ["unicode/utf8.first", "unicode/utf8.acceptRanges", "internal/bytealg.MaxLen", "internal/strconv.uint64pow10", "math/bits.deBruijn32tab", "math/bits.deBruijn64tab"], plainKeys := false, apart := false, laid := [("math/bits.deBruijn32tab", laid_math_bits_deBruijn32tab), ("math/bits.deBruijn64tab", laid_math_bits_deBruijn64tab), ("internal/strconv.uint64pow10", laid_internal_strconv_uint64pow10), ("unicode/utf8.acceptRanges", laid_unicode_utf8_acceptRanges), ("unicode/utf8.first", laid_unicode_utf8_first)], narrowed := true }
def CueSettledUptoSaid : Prop := cueSettledUptoRow.holds Tryz.pinned (OpenSpec.upto cueSettledSpec)

/-- 'kelirlaw04.CueAsks', WHERE WHAT IT READS IS OF BULK AT MOST 1048576: true; the input reads as it did. -/
def cueAsksUptoRow : OpenClaim := { program := "ytdhdaadoehbopaagreatdoor", sum := "4a2911568d3d22828a4ed16592fce81d2c45cd81782ec2d9fb27d7ce7397ce43", func := "kelir/kelirlaw04.CueAsks", spec := "cueAsks", inPlace := ["internal/bytealg.CountString", "internal/bytealg.IndexByteString", "internal/bytealg.IndexString", "internal/abi.NoEscape", "internal/bytealg.MakeNoZero"], unfollowed := true, recurses := true, named := ["unicode/utf8.first", "unicode/utf8.acceptRanges", "internal/bytealg.MaxLen", "internal/strconv.uint64pow10", "math/bits.deBruijn32tab", "math/bits.deBruijn64tab"], plainKeys := false, apart := false, laid := [("math/bits.deBruijn32tab", laid_math_bits_deBruijn32tab), ("math/bits.deBruijn64tab", laid_math_bits_deBruijn64tab), ("internal/strconv.uint64pow10", laid_internal_strconv_uint64pow10), ("unicode/utf8.acceptRanges", laid_unicode_utf8_acceptRanges), ("unicode/utf8.first", laid_unicode_utf8_first)], narrowed := true }
def CueAsksUptoSaid : Prop := cueAsksUptoRow.holds Tryz.pinned (OpenSpec.upto cueAsksSpec)

/-- 'kelirlaw04.CueGame', WHERE WHAT IT READS IS OF BULK AT MOST 1048576: true; the input reads as it did. -/
def cueGameUptoRow : OpenClaim := { program := "ytdhdaadoehbopaagreatdoor", sum := "4a2911568d3d22828a4ed16592fce81d2c45cd81782ec2d9fb27d7ce7397ce43", func := "kelir/kelirlaw04.CueGame", spec := "cueGame", inPlace := ["internal/bytealg.CountString", "internal/bytealg.IndexByteString", "internal/bytealg.IndexString", "internal/abi.NoEscape", "internal/bytealg.MakeNoZero"], unfollowed := true, recurses := true, named := ["unicode/utf8.first", "unicode/utf8.acceptRanges", "internal/bytealg.MaxLen", "internal/strconv.uint64pow10", "math/bits.deBruijn32tab", "math/bits.deBruijn64tab"], plainKeys := false, apart := false, laid := [("math/bits.deBruijn32tab", laid_math_bits_deBruijn32tab), ("math/bits.deBruijn64tab", laid_math_bits_deBruijn64tab), ("internal/strconv.uint64pow10", laid_internal_strconv_uint64pow10), ("unicode/utf8.acceptRanges", laid_unicode_utf8_acceptRanges), ("unicode/utf8.first", laid_unicode_utf8_first)], narrowed := true }
def CueGameUptoSaid : Prop := cueGameUptoRow.holds Tryz.pinned (OpenSpec.upto cueGameSpec)

/-- 'kelirlaw04.CueJoins', WHERE WHAT IT READS IS OF BULK AT MOST 1048576: true; the input reads as it did. -/
def cueJoinsUptoRow : OpenClaim := { program := "ytdhdaadoehbopaagreatdoor", sum := "4a2911568d3d22828a4ed16592fce81d2c45cd81782ec2d9fb27d7ce7397ce43", func := "kelir/kelirlaw04.CueJoins", spec := "cueJoins", inPlace := ["internal/bytealg.CountString", "internal/bytealg.IndexByteString", "internal/bytealg.IndexString", "internal/abi.NoEscape", "internal/bytealg.MakeNoZero"], unfollowed := true, recurses := true, named := ["unicode/utf8.first", "unicode/utf8.acceptRanges", "internal/bytealg.MaxLen", "internal/strconv.uint64pow10", "math/bits.deBruijn32tab", "math/bits.deBruijn64tab"], plainKeys := false, apart := false, laid := [("math/bits.deBruijn32tab", laid_math_bits_deBruijn32tab), ("math/bits.deBruijn64tab", laid_math_bits_deBruijn64tab), ("internal/strconv.uint64pow10", laid_internal_strconv_uint64pow10), ("unicode/utf8.acceptRanges", laid_unicode_utf8_acceptRanges), ("unicode/utf8.first", laid_unicode_utf8_first)], narrowed := true }
def CueJoinsUptoSaid : Prop := cueJoinsUptoRow.holds Tryz.pinned (OpenSpec.upto cueJoinsSpec)

/-- 'kelirlaw04.CueJoined', WHERE WHAT IT READS IS OF BULK AT MOST 1048576: true; the input reads as it did. -/
def cueJoinedUptoRow : OpenClaim := { program := "ytdhdaadoehbopaagreatdoor", sum := "4a2911568d3d22828a4ed16592fce81d2c45cd81782ec2d9fb27d7ce7397ce43", func := "kelir/kelirlaw04.CueJoined", spec := "cueJoined", inPlace := ["internal/bytealg.CountString", "internal/bytealg.IndexByteString", "internal/bytealg.IndexString", "internal/abi.NoEscape", "internal/bytealg.MakeNoZero"], unfollowed := true, recurses := true, named := ["unicode/utf8.first", "unicode/utf8.acceptRanges", "internal/bytealg.MaxLen", "internal/strconv.uint64pow10", "math/bits.deBruijn32tab", "math/bits.deBruijn64tab"], plainKeys := false, apart := false, laid := [("math/bits.deBruijn32tab", laid_math_bits_deBruijn32tab), ("math/bits.deBruijn64tab", laid_math_bits_deBruijn64tab), ("internal/strconv.uint64pow10", laid_internal_strconv_uint64pow10), ("unicode/utf8.acceptRanges", laid_unicode_utf8_acceptRanges), ("unicode/utf8.first", laid_unicode_utf8_first)], narrowed := true }
def CueJoinedUptoSaid : Prop := cueJoinedUptoRow.holds Tryz.pinned (OpenSpec.upto cueJoinedSpec)

/-- 'kelirlaw04.CueReduces', WHERE WHAT IT READS IS OF BULK AT MOST 1048576: true; the input reads as it did. -/
def cueReducesUptoRow : OpenClaim := { program := "ytdhdaadoehbopaagreatdoor", sum := "4a2911568d3d22828a4ed16592fce81d2c45cd81782ec2d9fb27d7ce7397ce43", func := "kelir/kelirlaw04.CueReduces", spec := "cueReduces", inPlace := ["internal/bytealg.CountString", "internal/bytealg.IndexByteString", "internal/bytealg.IndexString", "internal/abi.NoEscape", "internal/bytealg.MakeNoZero"], unfollowed := true, recurses := true, named := ["unicode/utf8.first", "unicode/utf8.acceptRanges", "internal/bytealg.MaxLen", "internal/strconv.uint64pow10", "math/bits.deBruijn32tab", "math/bits.deBruijn64tab"], plainKeys := false, apart := false, laid := [("math/bits.deBruijn32tab", laid_math_bits_deBruijn32tab), ("math/bits.deBruijn64tab", laid_math_bits_deBruijn64tab), ("internal/strconv.uint64pow10", laid_internal_strconv_uint64pow10), ("unicode/utf8.acceptRanges", laid_unicode_utf8_acceptRanges), ("unicode/utf8.first", laid_unicode_utf8_first)], narrowed := true }
def CueReducesUptoSaid : Prop := cueReducesUptoRow.holds Tryz.pinned (OpenSpec.upto cueReducesSpec)

/-- 'kelirlaw04.CueLeast', WHERE WHAT IT READS IS OF BULK AT MOST 1048576: true; the input reads as it did. -/
def cueLeastUptoRow : OpenClaim := { program := "ytdhdaadoehbopaagreatdoor", sum := "4a2911568d3d22828a4ed16592fce81d2c45cd81782ec2d9fb27d7ce7397ce43", func := "kelir/kelirlaw04.CueLeast", spec := "cueLeast", inPlace := ["internal/bytealg.CountString", "internal/bytealg.IndexByteString", "internal/bytealg.IndexString", "internal/abi.NoEscape", "internal/bytealg.MakeNoZero"], unfollowed := true, recurses := true, named := ["unicode/utf8.first", "unicode/utf8.acceptRanges", "internal/bytealg.MaxLen", "internal/strconv.uint64pow10", "math/bits.deBruijn32tab", "math/bits.deBruijn64tab"], plainKeys := false, apart := false, laid := [("math/bits.deBruijn32tab", laid_math_bits_deBruijn32tab), ("math/bits.deBruijn64tab", laid_math_bits_deBruijn64tab), ("internal/strconv.uint64pow10", laid_internal_strconv_uint64pow10), ("unicode/utf8.acceptRanges", laid_unicode_utf8_acceptRanges), ("unicode/utf8.first", laid_unicode_utf8_first)], narrowed := true }
def CueLeastUptoSaid : Prop := cueLeastUptoRow.holds Tryz.pinned (OpenSpec.upto cueLeastSpec)

/-- 'kelirlaw04.CueMishears', WHERE WHAT IT READS IS OF BULK AT MOST 1048576: true; the input reads as it did. -/
def cueMishearsUptoRow : OpenClaim := { program := "ytdhdaadoehbopaagreatdoor", sum := "4a2911568d3d22828a4ed16592fce81d2c45cd81782ec2d9fb27d7ce7397ce43", func := "kelir/kelirlaw04.CueMishears", spec := "cueMishears", inPlace := ["internal/bytealg.CountString", "internal/bytealg.IndexByteString", "internal/bytealg.IndexString", "internal/abi.NoEscape", "internal/bytealg.MakeNoZero"], unfollowed := true, recurses := true, named := ["unicode/utf8.first", "unicode/utf8.acceptRanges", "internal/bytealg.MaxLen", "internal/strconv.uint64pow10", "math/bits.deBruijn32tab", "math/bits.deBruijn64tab"], plainKeys := false, apart := false, laid := [("math/bits.deBruijn32tab", laid_math_bits_deBruijn32tab), ("math/bits.deBruijn64tab", laid_math_bits_deBruijn64tab), ("internal/strconv.uint64pow10", laid_internal_strconv_uint64pow10), ("unicode/utf8.acceptRanges", laid_unicode_utf8_acceptRanges), ("unicode/utf8.first", laid_unicode_utf8_first)], narrowed := true }
def CueMishearsUptoSaid : Prop := cueMishearsUptoRow.holds Tryz.pinned (OpenSpec.upto cueMishearsSpec)

/-- 'kelirlaw04.CueHeard', WHERE WHAT IT READS IS OF BULK AT MOST 1048576: true; the input reads as it did. -/
def cueHeardUptoRow : OpenClaim := { program := "ytdhdaadoehbopaagreatdoor", sum := "4a2911568d3d22828a4ed16592fce81d2c45cd81782ec2d9fb27d7ce7397ce43", func := "kelir/kelirlaw04.CueHeard", spec := "cueHeard", inPlace := ["internal/bytealg.CountString", "internal/bytealg.IndexByteString", "internal/bytealg.IndexString", "internal/abi.NoEscape", "internal/bytealg.MakeNoZero"], unfollowed := true, recurses := true, named := ["unicode/utf8.first", "unicode/utf8.acceptRanges", "internal/bytealg.MaxLen", "internal/strconv.uint64pow10", "math/bits.deBruijn32tab", "math/bits.deBruijn64tab"], plainKeys := false, apart := false, laid := [("math/bits.deBruijn32tab", laid_math_bits_deBruijn32tab), ("math/bits.deBruijn64tab", laid_math_bits_deBruijn64tab), ("internal/strconv.uint64pow10", laid_internal_strconv_uint64pow10), ("unicode/utf8.acceptRanges", laid_unicode_utf8_acceptRanges), ("unicode/utf8.first", laid_unicode_utf8_first)], narrowed := true }
def CueHeardUptoSaid : Prop := cueHeardUptoRow.holds Tryz.pinned (OpenSpec.upto cueHeardSpec)

/-- 'kelirlaw04.CueNevers', WHERE WHAT IT READS IS OF BULK AT MOST 1048576: true; the input reads as it did. -/
def cueNeversUptoRow : OpenClaim := { program := "ytdhdaadoehbopaagreatdoor", sum := "4a2911568d3d22828a4ed16592fce81d2c45cd81782ec2d9fb27d7ce7397ce43", func := "kelir/kelirlaw04.CueNevers", spec := "cueNevers", inPlace := ["internal/bytealg.CountString", "internal/bytealg.IndexByteString", "internal/bytealg.IndexString", "internal/abi.NoEscape", "internal/bytealg.MakeNoZero"], unfollowed := true, recurses := true, named := ["unicode/utf8.first", "unicode/utf8.acceptRanges", "internal/bytealg.MaxLen", "internal/strconv.uint64pow10", "math/bits.deBruijn32tab", "math/bits.deBruijn64tab"], plainKeys := false, apart := false, laid := [("math/bits.deBruijn32tab", laid_math_bits_deBruijn32tab), ("math/bits.deBruijn64tab", laid_math_bits_deBruijn64tab), ("internal/strconv.uint64pow10", laid_internal_strconv_uint64pow10), ("unicode/utf8.acceptRanges", laid_unicode_utf8_acceptRanges), ("unicode/utf8.first", laid_unicode_utf8_first)], narrowed := true }
def CueNeversUptoSaid : Prop := cueNeversUptoRow.holds Tryz.pinned (OpenSpec.upto cueNeversSpec)

/-- 'kelirlaw04.CueFenced', WHERE WHAT IT READS IS OF BULK AT MOST 1048576: true; the input reads as it did. -/
def cueFencedUptoRow : OpenClaim := { program := "ytdhdaadoehbopaagreatdoor", sum := "4a2911568d3d22828a4ed16592fce81d2c45cd81782ec2d9fb27d7ce7397ce43", func := "kelir/kelirlaw04.CueFenced", spec := "cueFenced", inPlace := ["internal/bytealg.CountString", "internal/bytealg.IndexByteString", "internal/bytealg.IndexString", "internal/abi.NoEscape", "internal/bytealg.MakeNoZero"], unfollowed := true, recurses := true, named := ["unicode/utf8.first", "unicode/utf8.acceptRanges", "internal/bytealg.MaxLen", "internal/strconv.uint64pow10", "math/bits.deBruijn32tab", "math/bits.deBruijn64tab"], plainKeys := false, apart := false, laid := [("math/bits.deBruijn32tab", laid_math_bits_deBruijn32tab), ("math/bits.deBruijn64tab", laid_math_bits_deBruijn64tab), ("internal/strconv.uint64pow10", laid_internal_strconv_uint64pow10), ("unicode/utf8.acceptRanges", laid_unicode_utf8_acceptRanges), ("unicode/utf8.first", laid_unicode_utf8_first)], narrowed := true }
def CueFencedUptoSaid : Prop := cueFencedUptoRow.holds Tryz.pinned (OpenSpec.upto cueFencedSpec)

/-- 'kelirlaw04.CueMore', WHERE WHAT IT READS IS OF BULK AT MOST 1048576: true; the input reads as it did. -/
def cueMoreUptoRow : OpenClaim := { program := "ytdhdaadoehbopaagreatdoor", sum := "4a2911568d3d22828a4ed16592fce81d2c45cd81782ec2d9fb27d7ce7397ce43", func := "kelir/kelirlaw04.CueMore", spec := "cueMore", inPlace := ["internal/bytealg.CountString", "internal/bytealg.IndexByteString", "internal/bytealg.IndexString", "internal/abi.NoEscape", "internal/bytealg.MakeNoZero"], unfollowed := true, recurses := true, named := ["unicode/utf8.first", "unicode/utf8.acceptRanges", "internal/bytealg.MaxLen", "internal/strconv.uint64pow10", "math/bits.deBruijn32tab", "math/bits.deBruijn64tab"], plainKeys := false, apart := false, laid := [("math/bits.deBruijn32tab", laid_math_bits_deBruijn32tab), ("math/bits.deBruijn64tab", laid_math_bits_deBruijn64tab), ("internal/strconv.uint64pow10", laid_internal_strconv_uint64pow10), ("unicode/utf8.acceptRanges", laid_unicode_utf8_acceptRanges), ("unicode/utf8.first", laid_unicode_utf8_first)], narrowed := true }
def CueMoreUptoSaid : Prop := cueMoreUptoRow.holds Tryz.pinned (OpenSpec.upto cueMoreSpec)

/-- 'kelirlaw04.CuePlays', WHERE WHAT IT READS IS OF BULK AT MOST 1048576: true; the input reads as it did. -/
def cuePlaysUptoRow : OpenClaim := { program := "ytdhdaadoehbopaagreatdoor", sum := "4a2911568d3d22828a4ed16592fce81d2c45cd81782ec2d9fb27d7ce7397ce43", func := "kelir/kelirlaw04.CuePlays", spec := "cuePlays", inPlace := ["internal/bytealg.CountString", "internal/bytealg.IndexByteString", "internal/bytealg.IndexString", "internal/abi.NoEscape", "internal/bytealg.MakeNoZero"], unfollowed := true, recurses := true, named := ["unicode/utf8.first", "unicode/utf8.acceptRanges", "internal/bytealg.MaxLen", "internal/strconv.uint64pow10", "math/bits.deBruijn32tab", "math/bits.deBruijn64tab"], plainKeys := false, apart := false, laid := [("math/bits.deBruijn32tab", laid_math_bits_deBruijn32tab), ("math/bits.deBruijn64tab", laid_math_bits_deBruijn64tab), ("internal/strconv.uint64pow10", laid_internal_strconv_uint64pow10), ("unicode/utf8.acceptRanges", laid_unicode_utf8_acceptRanges), ("unicode/utf8.first", laid_unicode_utf8_first)], narrowed := true }
def CuePlaysUptoSaid : Prop := cuePlaysUptoRow.holds Tryz.pinned (OpenSpec.upto cuePlaysSpec)

/-- 'kelirlaw04.CuePrints', WHERE WHAT IT READS IS OF BULK AT MOST 1048576: true; the input reads as it did. -/
def cuePrintsUptoRow : OpenClaim := { program := "ytdhdaadoehbopaagreatdoor", sum := "4a2911568d3d22828a4ed16592fce81d2c45cd81782ec2d9fb27d7ce7397ce43", func := "kelir/kelirlaw04.CuePrints", spec := "cuePrints", inPlace := ["internal/bytealg.CountString", "internal/bytealg.IndexByteString", "internal/bytealg.IndexString", "internal/abi.NoEscape", "internal/bytealg.MakeNoZero"], unfollowed := true, recurses := true, named := ["unicode/utf8.first", "unicode/utf8.acceptRanges", "internal/bytealg.MaxLen", "internal/strconv.uint64pow10", "math/bits.deBruijn32tab", "math/bits.deBruijn64tab"], plainKeys := false, apart := false, laid := [("math/bits.deBruijn32tab", laid_math_bits_deBruijn32tab), ("math/bits.deBruijn64tab", laid_math_bits_deBruijn64tab), ("internal/strconv.uint64pow10", laid_internal_strconv_uint64pow10), ("unicode/utf8.acceptRanges", laid_unicode_utf8_acceptRanges), ("unicode/utf8.first", laid_unicode_utf8_first)], narrowed := true }
def CuePrintsUptoSaid : Prop := cuePrintsUptoRow.holds Tryz.pinned (OpenSpec.upto cuePrintsSpec)

/-- 'kelirlaw04.CueReads', WHERE WHAT IT READS IS OF BULK AT MOST 1048576: true; the input reads as it did. -/
def cueReadsUptoRow : OpenClaim := { program := "ytdhdaadoehbopaagreatdoor", sum := "4a2911568d3d22828a4ed16592fce81d2c45cd81782ec2d9fb27d7ce7397ce43", func := "kelir/kelirlaw04.CueReads", spec := "cueReads", inPlace := ["internal/bytealg.CountString", "internal/bytealg.IndexByteString", "internal/bytealg.IndexString", "internal/abi.NoEscape", "internal/bytealg.MakeNoZero"], unfollowed := true, recurses := true, named := ["unicode/utf8.first", "unicode/utf8.acceptRanges", "internal/bytealg.MaxLen", "internal/strconv.uint64pow10", "math/bits.deBruijn32tab", "math/bits.deBruijn64tab"], plainKeys := false, apart := false, laid := [("math/bits.deBruijn32tab", laid_math_bits_deBruijn32tab), ("math/bits.deBruijn64tab", laid_math_bits_deBruijn64tab), ("internal/strconv.uint64pow10", laid_internal_strconv_uint64pow10), ("unicode/utf8.acceptRanges", laid_unicode_utf8_acceptRanges), ("unicode/utf8.first", laid_unicode_utf8_first)], narrowed := true }
def CueReadsUptoSaid : Prop := cueReadsUptoRow.holds Tryz.pinned (OpenSpec.upto cueReadsSpec)

/-- 'kelirlaw04.CueSpoilt', WHERE WHAT IT READS IS OF BULK AT MOST 1048576: true; the input reads as it did. -/
def cueSpoiltUptoRow : OpenClaim := { program := "ytdhdaadoehbopaagreatdoor", sum := "4a2911568d3d22828a4ed16592fce81d2c45cd81782ec2d9fb27d7ce7397ce43", func := "kelir/kelirlaw04.CueSpoilt", spec := "cueSpoilt", inPlace := ["internal/bytealg.CountString", "internal/bytealg.IndexByteString", "internal/bytealg.IndexString", "internal/abi.NoEscape", "internal/bytealg.MakeNoZero"], unfollowed := true, recurses := true, named := ["unicode/utf8.first", "unicode/utf8.acceptRanges", "internal/bytealg.MaxLen", "internal/strconv.uint64pow10", "math/bits.deBruijn32tab", "math/bits.deBruijn64tab"], plainKeys := false, apart := false, laid := [("math/bits.deBruijn32tab", laid_math_bits_deBruijn32tab), ("math/bits.deBruijn64tab", laid_math_bits_deBruijn64tab), ("internal/strconv.uint64pow10", laid_internal_strconv_uint64pow10), ("unicode/utf8.acceptRanges", laid_unicode_utf8_acceptRanges), ("unicode/utf8.first", laid_unicode_utf8_first)], narrowed := true }
def CueSpoiltUptoSaid : Prop := cueSpoiltUptoRow.holds Tryz.pinned (OpenSpec.upto cueSpoiltSpec)

end Rows
end Go.Proofs.YtdhdaadoehbopaaGreatDoor
