/- DebugBack returns true for every list, index and number, and changes nothing that lay before. No conditions. Part TA. -/
import Derived.Test.YtnlkhnbbkjejkaaGreatDoorRows
import Derived.LaidByTextLater
import Derived.SevenTiedAt
set_option linter.unusedSimpArgs false
set_option linter.unusedVariables false
section
namespace Go.Proofs.YtnlkhnbbkjejkaaGreatDoor
open Go
def laid8 : List (String × DataW Unit) := [("strings.asciiSpace", Rows.laid_strings_asciiSpace), ("unicode.White_Space", Rows.laid_unicode_White_Space), ("internal/strconv.uint64pow10", Rows.laid_internal_strconv_uint64pow10), ("math/bits.deBruijn32tab", Rows.laid_math_bits_deBruijn32tab), ("math/bits.deBruijn64tab", Rows.laid_math_bits_deBruijn64tab), ("unicode/utf8.acceptRanges", Rows.laid_unicode_utf8_acceptRanges), ("manorboy/tree.levels", Rows.laid_manorboy_tree_levels), ("manorboy/tree.signs", Rows.laid_manorboy_tree_signs)]
def kinds8 : List LaidKind := [.data, .listed, .data, .data, .data, .data, .data, .data]
end Go.Proofs.YtnlkhnbbkjejkaaGreatDoor
end
section
namespace Go.Proofs.YtnlkhnbbkjejkaaGreatDoor
open Go
set_option maxRecDepth 100000
def u (k : Nat) : Value := .int .u8 (Int.ofNat k)
def n (k : IntKind) (m : Nat) : Value := .int k (Int.ofNat m)
/-- What the heap holds behind the variables' initialisers. -/
noncomputable def litHeap (os : Os) : Array Obj := #[
(.cells #[(n .i64 7),(n .i64 7),(n .i64 8),(n .i64 8),(n .i64 8),(n .i64 9),(n .i64 6),(n .i64 6),(n .i64 6),(n .i64 6),(n .i64 6),(n .i64 6),(n .i64 4),(n .i64 3),(n .i64 2),(n .i64 1)] 318 ),
(.cells #[(.string ⟨#[43]⟩),(.string ⟨#[45]⟩),(.string ⟨#[42]⟩),(.string ⟨#[47]⟩),(.string ⟨#[47, 47]⟩),(.string ⟨#[94]⟩),(.string ⟨#[60]⟩),(.string ⟨#[60, 61]⟩),(.string ⟨#[61]⟩),(.string ⟨#[47, 61]⟩),(.string ⟨#[62, 61]⟩),(.string ⟨#[62]⟩),(.string ⟨#[97, 110, 100]⟩),(.string ⟨#[111, 114]⟩),(.string ⟨#[105, 109, 112]⟩),(.string ⟨#[101, 113, 118]⟩)] 414 ),
(.cells #[(u 0),(u 0),(u 0),(u 0),(u 0),(u 0),(u 0),(u 0),(u 0),(u 1),(u 1),(u 1),(u 1),(u 1),(u 0),(u 0),(u 0),(u 0),(u 0),(u 0),(u 0),(u 0),(u 0),(u 0),(u 0),(u 0),(u 0),(u 0),(u 0),(u 0),(u 0),(u 0),(u 1),(u 0),(u 0),(u 0),(u 0),(u 0),(u 0),(u 0),(u 0),(u 0),(u 0),(u 0),(u 0),(u 0),(u 0),(u 0),(u 0),(u 0),(u 0),(u 0),(u 0),(u 0),(u 0),(u 0),(u 0),(u 0),(u 0),(u 0),(u 0),(u 0),(u 0),(u 0),(u 0),(u 0),(u 0),(u 0),(u 0),(u 0),(u 0),(u 0),(u 0),(u 0),(u 0),(u 0),(u 0),(u 0),(u 0),(u 0),(u 0),(u 0),(u 0),(u 0),(u 0),(u 0),(u 0),(u 0),(u 0),(u 0),(u 0),(u 0),(u 0),(u 0),(u 0),(u 0),(u 0),(u 0),(u 0),(u 0),(u 0),(u 0),(u 0),(u 0),(u 0),(u 0),(u 0),(u 0),(u 0),(u 0),(u 0),(u 0),(u 0),(u 0),(u 0),(u 0),(u 0),(u 0),(u 0),(u 0),(u 0),(u 0),(u 0),(u 0),(u 0),(u 0),(u 0),(u 0),(u 0),(u 0),(u 0),(u 0),(u 0),(u 0),(u 0),(u 0),(u 0),(u 0),(u 0),(u 0),(u 0),(u 0),(u 0),(u 0),(u 0),(u 0),(u 0),(u 0),(u 0),(u 0),(u 0),(u 0),(u 0),(u 0),(u 0),(u 0),(u 0),(u 0),(u 0),(u 0),(u 0),(u 0),(u 0),(u 0),(u 0),(u 0),(u 0),(u 0),(u 0),(u 0),(u 0),(u 0),(u 0),(u 0),(u 0),(u 0),(u 0),(u 0),(u 0),(u 0),(u 0),(u 0),(u 0),(u 0),(u 0),(u 0),(u 0),(u 0),(u 0),(u 0),(u 0),(u 0),(u 0),(u 0),(u 0),(u 0),(u 0),(u 0),(u 0),(u 0),(u 0),(u 0),(u 0),(u 0),(u 0),(u 0),(u 0),(u 0),(u 0),(u 0),(u 0),(u 0),(u 0),(u 0),(u 0),(u 0),(u 0),(u 0),(u 0),(u 0),(u 0),(u 0),(u 0),(u 0),(u 0),(u 0),(u 0),(u 0),(u 0),(u 0),(u 0),(u 0),(u 0),(u 0),(u 0),(u 0),(u 0),(u 0),(u 0),(u 0),(u 0),(u 0),(u 0),(u 0),(u 0),(u 0),(u 0),(u 0),(u 0),(u 0),(u 0),(u 0),(u 0),(u 0),(u 0),(u 0)] 776 ),
(.cells #[(n .u64 1),(n .u64 10),(n .u64 100),(n .u64 1000),(n .u64 10000),(n .u64 100000),(n .u64 1000000),(n .u64 10000000),(n .u64 100000000),(n .u64 1000000000),(n .u64 10000000000),(n .u64 100000000000),(n .u64 1000000000000),(n .u64 10000000000000),(n .u64 100000000000000),(n .u64 1000000000000000),(n .u64 10000000000000000),(n .u64 100000000000000000),(n .u64 1000000000000000000),(n .u64 10000000000000000000)] 780 ),
(.cells #[(n .i64 0)] 3 ),
(.cells #[(.pointer (some ⟨17,0,none⟩))] 815 ),
(.cells #[(u 0),(u 1),(u 28),(u 2),(u 29),(u 14),(u 24),(u 3),(u 30),(u 22),(u 20),(u 15),(u 25),(u 17),(u 4),(u 8),(u 31),(u 27),(u 13),(u 23),(u 21),(u 19),(u 16),(u 7),(u 26),(u 12),(u 18),(u 6),(u 11),(u 5),(u 10),(u 9)] 861 ),
(.cells #[(u 0),(u 1),(u 56),(u 2),(u 57),(u 49),(u 28),(u 3),(u 61),(u 58),(u 42),(u 50),(u 38),(u 29),(u 17),(u 4),(u 62),(u 47),(u 59),(u 36),(u 45),(u 43),(u 51),(u 22),(u 53),(u 39),(u 33),(u 30),(u 24),(u 18),(u 12),(u 5),(u 63),(u 55),(u 48),(u 27),(u 60),(u 41),(u 37),(u 16),(u 46),(u 35),(u 44),(u 21),(u 52),(u 32),(u 23),(u 11),(u 54),(u 26),(u 40),(u 15),(u 34),(u 20),(u 31),(u 10),(u 25),(u 14),(u 19),(u 9),(u 13),(u 8),(u 7),(u 6)] 862 ),
(.cells #[(u 0),(u 0),(u 0),(u 0),(u 0),(u 0),(u 0),(u 0),(u 0),(u 0),(u 0),(u 0),(u 0),(u 0),(u 0),(u 0),(u 0),(u 0),(u 0),(u 0),(u 0),(u 0),(u 0),(u 0),(u 0),(u 0),(u 0),(u 0),(u 0),(u 0),(u 0),(u 0),(u 0),(u 0),(u 0),(u 0),(u 0),(u 0),(u 0),(u 0),(u 0),(u 0),(u 0),(u 0),(u 0),(u 0),(u 0),(u 0),(u 0),(u 0),(u 0),(u 0),(u 0),(u 0),(u 0),(u 0),(u 0),(u 0),(u 0),(u 0),(u 0),(u 0),(u 0),(u 0),(u 0),(u 0),(u 0),(u 0),(u 0),(u 0),(u 0),(u 0),(u 0),(u 0),(u 0),(u 0),(u 0),(u 0),(u 0),(u 0),(u 0),(u 0),(u 0),(u 0),(u 0),(u 0),(u 0),(u 0),(u 0),(u 0),(u 0),(u 0),(u 0),(u 0),(u 0),(u 0),(u 0),(u 0),(u 0),(u 0),(u 0),(u 0),(u 0),(u 0),(u 0),(u 0),(u 0),(u 0),(u 0),(u 0),(u 0),(u 0),(u 0),(u 0),(u 0),(u 0),(u 0),(u 0),(u 0),(u 0),(u 0),(u 0),(u 0),(u 0),(u 0),(u 0),(u 0),(u 0),(u 0),(u 0),(u 0),(u 0),(u 0),(u 0),(u 0),(u 0),(u 0),(u 0),(u 0),(u 0),(u 0),(u 0),(u 0),(u 0),(u 0),(u 0),(u 0),(u 0),(u 0),(u 0),(u 0),(u 0),(u 0),(u 0),(u 0),(u 0),(u 0),(u 0),(u 0),(u 0),(u 0),(u 0),(u 0),(u 0),(u 0),(u 0),(u 0),(u 0),(u 0),(u 0),(u 0),(u 0),(u 0),(u 0),(u 0),(u 0),(u 0),(u 0),(u 0),(u 0),(u 0),(u 0),(u 0),(u 0),(u 0),(u 0),(u 0),(u 0),(u 0),(u 0),(u 0),(u 0),(u 0),(u 0),(u 0),(u 0),(u 0),(u 0),(u 0),(u 0),(u 0),(u 0),(u 0),(u 0),(u 0),(u 0),(u 0),(u 0),(u 0),(u 0),(u 0),(u 0),(u 0),(u 0),(u 0),(u 0),(u 0),(u 0),(u 0),(u 0),(u 0),(u 0),(u 0),(u 0),(u 0),(u 0),(u 0),(u 0),(u 0),(u 0),(u 0),(u 0),(u 0),(u 0),(u 0),(u 0),(u 0),(u 0),(u 0),(u 0),(u 0),(u 0),(u 0),(u 0),(u 0),(u 0),(u 0),(u 0),(u 0),(u 0),(u 0),(u 0),(u 0),(u 0),(u 0),(u 0)] 776 ),
(.cells #[(u 128),(u 191),(u 160),(u 191),(u 128),(u 159),(u 144),(u 191),(u 128),(u 143),(u 0),(u 0),(u 0),(u 0),(u 0),(u 0),(u 0),(u 0),(u 0),(u 0),(u 0),(u 0),(u 0),(u 0),(u 0),(u 0),(u 0),(u 0),(u 0),(u 0),(u 0),(u 0)] 865 ),
(.cells #[(.pointer (some ⟨17,0,none⟩))] 815 ),
(((World.unlaid Tryz.prog os).heap[11]?).getD (.map #[] 0)),
(.map #[] 0),
(((World.unlaid Tryz.prog os).heap[13]?).getD (.map #[] 0)),
(.cells #[(.bool false)] 0 ),
(((World.unlaid Tryz.prog os).heap[15]?).getD (.map #[] 0)),
(.cells #[(n .u16 9),(n .u16 13),(n .u16 1),(n .u16 32),(n .u16 133),(n .u16 101),(n .u16 160),(n .u16 5760),(n .u16 5600),(n .u16 8192),(n .u16 8202),(n .u16 1),(n .u16 8232),(n .u16 8233),(n .u16 1),(n .u16 8239),(n .u16 8287),(n .u16 48),(n .u16 12288),(n .u16 12288),(n .u16 1)] 856 ),
(.cells #[(.slice (some ⟨16,0,none⟩) 7 7),(.slice none 0 0),(n .i64 2)] 853 )]
noncomputable def litMem (os : Os) : World := { heap := litHeap os, tape := fun _ _ => 0, drawn := 0, os := default, output := #[] }
end Go.Proofs.YtnlkhnbbkjejkaaGreatDoor
end
section
namespace Go.Proofs.YtnlkhnbbkjejkaaGreatDoor
open Go
set_option maxRecDepth 100000
theorem t_hk : laid8.map (fun x => Tryz.prog.kindOfLater x.1) = kinds8.map some := by kernel_rfl
end Go.Proofs.YtnlkhnbbkjejkaaGreatDoor
end
