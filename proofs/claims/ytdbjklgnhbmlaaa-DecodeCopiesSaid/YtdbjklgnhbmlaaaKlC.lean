/-
  The engine's code of some functions, printed by a small program, and that it is what the loaded functions become.
-/
import Derived.Test.YtdbjklgnhbmlaaaProg
import Derived.Test.YtdbjklgnhbmlaaaKd
namespace Go.E1
open Go Go.Proofs

/-- squint/squintref05.Entry -/
def lf16 : LFunc := ⟨70, [.cellN 2 2],
  .seq (.region [⟨some 2, .op (.alloc [.string ⟨#[]⟩, .string ⟨#[]⟩]), none⟩] [0, 2])
  (.seq (.region [⟨some 4, .op (.build [.string ⟨#[]⟩, .string ⟨#[]⟩] [(0, 1, .c (.string ⟨#[58, 97, 117, 116, 104, 111, 114, 105, 116, 121]⟩)), (1, 1, .c (.string ⟨#[]⟩))]), none⟩,
      ⟨some 5, .op (.build [.string ⟨#[]⟩, .string ⟨#[]⟩] [(0, 1, .c (.string ⟨#[58, 109, 101, 116, 104, 111, 100]⟩)), (1, 1, .c (.string ⟨#[71, 69, 84]⟩))]), none⟩,
      ⟨some 6, .op (.build [.string ⟨#[]⟩, .string ⟨#[]⟩] [(0, 1, .c (.string ⟨#[58, 109, 101, 116, 104, 111, 100]⟩)), (1, 1, .c (.string ⟨#[80, 79, 83, 84]⟩))]), none⟩,
      ⟨some 7, .op (.build [.string ⟨#[]⟩, .string ⟨#[]⟩] [(0, 1, .c (.string ⟨#[58, 112, 97, 116, 104]⟩)), (1, 1, .c (.string ⟨#[47]⟩))]), none⟩,
      ⟨some 8, .op (.build [.string ⟨#[]⟩, .string ⟨#[]⟩] [(0, 1, .c (.string ⟨#[58, 112, 97, 116, 104]⟩)), (1, 1, .c (.string ⟨#[47, 105, 110, 100, 101, 120, 46, 104, 116, 109, 108]⟩))]), none⟩,
      ⟨some 9, .op (.build [.string ⟨#[]⟩, .string ⟨#[]⟩] [(0, 1, .c (.string ⟨#[58, 115, 99, 104, 101, 109, 101]⟩)), (1, 1, .c (.string ⟨#[104, 116, 116, 112]⟩))]), none⟩,
      ⟨some 10, .op (.build [.string ⟨#[]⟩, .string ⟨#[]⟩] [(0, 1, .c (.string ⟨#[58, 115, 99, 104, 101, 109, 101]⟩)), (1, 1, .c (.string ⟨#[104, 116, 116, 112, 115]⟩))]), none⟩,
      ⟨some 11, .op (.build [.string ⟨#[]⟩, .string ⟨#[]⟩] [(0, 1, .c (.string ⟨#[58, 115, 116, 97, 116, 117, 115]⟩)), (1, 1, .c (.string ⟨#[50, 48, 48]⟩))]), none⟩,
      ⟨some 12, .op (.build [.string ⟨#[]⟩, .string ⟨#[]⟩] [(0, 1, .c (.string ⟨#[58, 115, 116, 97, 116, 117, 115]⟩)), (1, 1, .c (.string ⟨#[50, 48, 52]⟩))]), none⟩,
      ⟨some 13, .op (.build [.string ⟨#[]⟩, .string ⟨#[]⟩] [(0, 1, .c (.string ⟨#[58, 115, 116, 97, 116, 117, 115]⟩)), (1, 1, .c (.string ⟨#[50, 48, 54]⟩))]), none⟩,
      ⟨some 14, .op (.build [.string ⟨#[]⟩, .string ⟨#[]⟩] [(0, 1, .c (.string ⟨#[58, 115, 116, 97, 116, 117, 115]⟩)), (1, 1, .c (.string ⟨#[51, 48, 52]⟩))]), none⟩,
      ⟨some 15, .op (.build [.string ⟨#[]⟩, .string ⟨#[]⟩] [(0, 1, .c (.string ⟨#[58, 115, 116, 97, 116, 117, 115]⟩)), (1, 1, .c (.string ⟨#[52, 48, 48]⟩))]), none⟩,
      ⟨some 16, .op (.build [.string ⟨#[]⟩, .string ⟨#[]⟩] [(0, 1, .c (.string ⟨#[58, 115, 116, 97, 116, 117, 115]⟩)), (1, 1, .c (.string ⟨#[52, 48, 52]⟩))]), none⟩,
      ⟨some 17, .op (.build [.string ⟨#[]⟩, .string ⟨#[]⟩] [(0, 1, .c (.string ⟨#[58, 115, 116, 97, 116, 117, 115]⟩)), (1, 1, .c (.string ⟨#[53, 48, 48]⟩))]), none⟩,
      ⟨some 18, .op (.build [.string ⟨#[]⟩, .string ⟨#[]⟩] [(0, 1, .c (.string ⟨#[97, 99, 99, 101, 112, 116, 45, 99, 104, 97, 114, 115, 101, 116]⟩)), (1, 1, .c (.string ⟨#[]⟩))]), none⟩,
      ⟨some 19, .op (.build [.string ⟨#[]⟩, .string ⟨#[]⟩] [(0, 1, .c (.string ⟨#[97, 99, 99, 101, 112, 116, 45, 101, 110, 99, 111, 100, 105, 110, 103]⟩)), (1, 1, .c (.string ⟨#[103, 122, 105, 112, 44, 32, 100, 101, 102, 108, 97, 116, 101]⟩))]), none⟩,
      ⟨some 20, .op (.build [.string ⟨#[]⟩, .string ⟨#[]⟩] [(0, 1, .c (.string ⟨#[97, 99, 99, 101, 112, 116, 45, 108, 97, 110, 103, 117, 97, 103, 101]⟩)), (1, 1, .c (.string ⟨#[]⟩))]), none⟩,
      ⟨some 21, .op (.build [.string ⟨#[]⟩, .string ⟨#[]⟩] [(0, 1, .c (.string ⟨#[97, 99, 99, 101, 112, 116, 45, 114, 97, 110, 103, 101, 115]⟩)), (1, 1, .c (.string ⟨#[]⟩))]), none⟩,
      ⟨some 22, .op (.build [.string ⟨#[]⟩, .string ⟨#[]⟩] [(0, 1, .c (.string ⟨#[97, 99, 99, 101, 112, 116]⟩)), (1, 1, .c (.string ⟨#[]⟩))]), none⟩,
      ⟨some 23, .op (.build [.string ⟨#[]⟩, .string ⟨#[]⟩] [(0, 1, .c (.string ⟨#[97, 99, 99, 101, 115, 115, 45, 99, 111, 110, 116, 114, 111, 108, 45, 97, 108, 108, 111, 119, 45, 111, 114, 105, 103, 105, 110]⟩)), (1, 1, .c (.string ⟨#[]⟩))]), none⟩,
      ⟨some 24, .op (.build [.string ⟨#[]⟩, .string ⟨#[]⟩] [(0, 1, .c (.string ⟨#[97, 103, 101]⟩)), (1, 1, .c (.string ⟨#[]⟩))]), none⟩,
      ⟨some 25, .op (.build [.string ⟨#[]⟩, .string ⟨#[]⟩] [(0, 1, .c (.string ⟨#[97, 108, 108, 111, 119]⟩)), (1, 1, .c (.string ⟨#[]⟩))]), none⟩,
      ⟨some 26, .op (.build [.string ⟨#[]⟩, .string ⟨#[]⟩] [(0, 1, .c (.string ⟨#[97, 117, 116, 104, 111, 114, 105, 122, 97, 116, 105, 111, 110]⟩)), (1, 1, .c (.string ⟨#[]⟩))]), none⟩,
      ⟨some 27, .op (.build [.string ⟨#[]⟩, .string ⟨#[]⟩] [(0, 1, .c (.string ⟨#[99, 97, 99, 104, 101, 45, 99, 111, 110, 116, 114, 111, 108]⟩)), (1, 1, .c (.string ⟨#[]⟩))]), none⟩,
      ⟨some 28, .op (.build [.string ⟨#[]⟩, .string ⟨#[]⟩] [(0, 1, .c (.string ⟨#[99, 111, 110, 116, 101, 110, 116, 45, 100, 105, 115, 112, 111, 115, 105, 116, 105, 111, 110]⟩)), (1, 1, .c (.string ⟨#[]⟩))]), none⟩,
      ⟨some 29, .op (.build [.string ⟨#[]⟩, .string ⟨#[]⟩] [(0, 1, .c (.string ⟨#[99, 111, 110, 116, 101, 110, 116, 45, 101, 110, 99, 111, 100, 105, 110, 103]⟩)), (1, 1, .c (.string ⟨#[]⟩))]), none⟩,
      ⟨some 30, .op (.build [.string ⟨#[]⟩, .string ⟨#[]⟩] [(0, 1, .c (.string ⟨#[99, 111, 110, 116, 101, 110, 116, 45, 108, 97, 110, 103, 117, 97, 103, 101]⟩)), (1, 1, .c (.string ⟨#[]⟩))]), none⟩,
      ⟨some 31, .op (.build [.string ⟨#[]⟩, .string ⟨#[]⟩] [(0, 1, .c (.string ⟨#[99, 111, 110, 116, 101, 110, 116, 45, 108, 101, 110, 103, 116, 104]⟩)), (1, 1, .c (.string ⟨#[]⟩))]), none⟩,
      ⟨some 32, .op (.build [.string ⟨#[]⟩, .string ⟨#[]⟩] [(0, 1, .c (.string ⟨#[99, 111, 110, 116, 101, 110, 116, 45, 108, 111, 99, 97, 116, 105, 111, 110]⟩)), (1, 1, .c (.string ⟨#[]⟩))]), none⟩,
      ⟨some 33, .op (.build [.string ⟨#[]⟩, .string ⟨#[]⟩] [(0, 1, .c (.string ⟨#[99, 111, 110, 116, 101, 110, 116, 45, 114, 97, 110, 103, 101]⟩)), (1, 1, .c (.string ⟨#[]⟩))]), none⟩,
      ⟨some 34, .op (.build [.string ⟨#[]⟩, .string ⟨#[]⟩] [(0, 1, .c (.string ⟨#[99, 111, 110, 116, 101, 110, 116, 45, 116, 121, 112, 101]⟩)), (1, 1, .c (.string ⟨#[]⟩))]), none⟩,
      ⟨some 35, .op (.build [.string ⟨#[]⟩, .string ⟨#[]⟩] [(0, 1, .c (.string ⟨#[99, 111, 111, 107, 105, 101]⟩)), (1, 1, .c (.string ⟨#[]⟩))]), none⟩,
      ⟨some 36, .op (.build [.string ⟨#[]⟩, .string ⟨#[]⟩] [(0, 1, .c (.string ⟨#[100, 97, 116, 101]⟩)), (1, 1, .c (.string ⟨#[]⟩))]), none⟩,
      ⟨some 37, .op (.build [.string ⟨#[]⟩, .string ⟨#[]⟩] [(0, 1, .c (.string ⟨#[101, 116, 97, 103]⟩)), (1, 1, .c (.string ⟨#[]⟩))]), none⟩,
      ⟨some 38, .op (.build [.string ⟨#[]⟩, .string ⟨#[]⟩] [(0, 1, .c (.string ⟨#[101, 120, 112, 101, 99, 116]⟩)), (1, 1, .c (.string ⟨#[]⟩))]), none⟩,
      ⟨some 39, .op (.build [.string ⟨#[]⟩, .string ⟨#[]⟩] [(0, 1, .c (.string ⟨#[101, 120, 112, 105, 114, 101, 115]⟩)), (1, 1, .c (.string ⟨#[]⟩))]), none⟩,
      ⟨some 40, .op (.build [.string ⟨#[]⟩, .string ⟨#[]⟩] [(0, 1, .c (.string ⟨#[102, 114, 111, 109]⟩)), (1, 1, .c (.string ⟨#[]⟩))]), none⟩,
      ⟨some 41, .op (.build [.string ⟨#[]⟩, .string ⟨#[]⟩] [(0, 1, .c (.string ⟨#[104, 111, 115, 116]⟩)), (1, 1, .c (.string ⟨#[]⟩))]), none⟩,
      ⟨some 42, .op (.build [.string ⟨#[]⟩, .string ⟨#[]⟩] [(0, 1, .c (.string ⟨#[105, 102, 45, 109, 97, 116, 99, 104]⟩)), (1, 1, .c (.string ⟨#[]⟩))]), none⟩,
      ⟨some 43, .op (.build [.string ⟨#[]⟩, .string ⟨#[]⟩] [(0, 1, .c (.string ⟨#[105, 102, 45, 109, 111, 100, 105, 102, 105, 101, 100, 45, 115, 105, 110, 99, 101]⟩)), (1, 1, .c (.string ⟨#[]⟩))]), none⟩,
      ⟨some 44, .op (.build [.string ⟨#[]⟩, .string ⟨#[]⟩] [(0, 1, .c (.string ⟨#[105, 102, 45, 110, 111, 110, 101, 45, 109, 97, 116, 99, 104]⟩)), (1, 1, .c (.string ⟨#[]⟩))]), none⟩,
      ⟨some 45, .op (.build [.string ⟨#[]⟩, .string ⟨#[]⟩] [(0, 1, .c (.string ⟨#[105, 102, 45, 114, 97, 110, 103, 101]⟩)), (1, 1, .c (.string ⟨#[]⟩))]), none⟩,
      ⟨some 46, .op (.build [.string ⟨#[]⟩, .string ⟨#[]⟩] [(0, 1, .c (.string ⟨#[105, 102, 45, 117, 110, 109, 111, 100, 105, 102, 105, 101, 100, 45, 115, 105, 110, 99, 101]⟩)), (1, 1, .c (.string ⟨#[]⟩))]), none⟩,
      ⟨some 47, .op (.build [.string ⟨#[]⟩, .string ⟨#[]⟩] [(0, 1, .c (.string ⟨#[108, 97, 115, 116, 45, 109, 111, 100, 105, 102, 105, 101, 100]⟩)), (1, 1, .c (.string ⟨#[]⟩))]), none⟩,
      ⟨some 48, .op (.build [.string ⟨#[]⟩, .string ⟨#[]⟩] [(0, 1, .c (.string ⟨#[108, 105, 110, 107]⟩)), (1, 1, .c (.string ⟨#[]⟩))]), none⟩,
      ⟨some 49, .op (.build [.string ⟨#[]⟩, .string ⟨#[]⟩] [(0, 1, .c (.string ⟨#[108, 111, 99, 97, 116, 105, 111, 110]⟩)), (1, 1, .c (.string ⟨#[]⟩))]), none⟩,
      ⟨some 50, .op (.build [.string ⟨#[]⟩, .string ⟨#[]⟩] [(0, 1, .c (.string ⟨#[109, 97, 120, 45, 102, 111, 114, 119, 97, 114, 100, 115]⟩)), (1, 1, .c (.string ⟨#[]⟩))]), none⟩,
      ⟨some 51, .op (.build [.string ⟨#[]⟩, .string ⟨#[]⟩] [(0, 1, .c (.string ⟨#[112, 114, 111, 120, 121, 45, 97, 117, 116, 104, 101, 110, 116, 105, 99, 97, 116, 101]⟩)), (1, 1, .c (.string ⟨#[]⟩))]), none⟩,
      ⟨some 52, .op (.build [.string ⟨#[]⟩, .string ⟨#[]⟩] [(0, 1, .c (.string ⟨#[112, 114, 111, 120, 121, 45, 97, 117, 116, 104, 111, 114, 105, 122, 97, 116, 105, 111, 110]⟩)), (1, 1, .c (.string ⟨#[]⟩))]), none⟩,
      ⟨some 53, .op (.build [.string ⟨#[]⟩, .string ⟨#[]⟩] [(0, 1, .c (.string ⟨#[114, 97, 110, 103, 101]⟩)), (1, 1, .c (.string ⟨#[]⟩))]), none⟩,
      ⟨some 54, .op (.build [.string ⟨#[]⟩, .string ⟨#[]⟩] [(0, 1, .c (.string ⟨#[114, 101, 102, 101, 114, 101, 114]⟩)), (1, 1, .c (.string ⟨#[]⟩))]), none⟩,
      ⟨some 55, .op (.build [.string ⟨#[]⟩, .string ⟨#[]⟩] [(0, 1, .c (.string ⟨#[114, 101, 102, 114, 101, 115, 104]⟩)), (1, 1, .c (.string ⟨#[]⟩))]), none⟩,
      ⟨some 56, .op (.build [.string ⟨#[]⟩, .string ⟨#[]⟩] [(0, 1, .c (.string ⟨#[114, 101, 116, 114, 121, 45, 97, 102, 116, 101, 114]⟩)), (1, 1, .c (.string ⟨#[]⟩))]), none⟩,
      ⟨some 57, .op (.build [.string ⟨#[]⟩, .string ⟨#[]⟩] [(0, 1, .c (.string ⟨#[115, 101, 114, 118, 101, 114]⟩)), (1, 1, .c (.string ⟨#[]⟩))]), none⟩,
      ⟨some 58, .op (.build [.string ⟨#[]⟩, .string ⟨#[]⟩] [(0, 1, .c (.string ⟨#[115, 101, 116, 45, 99, 111, 111, 107, 105, 101]⟩)), (1, 1, .c (.string ⟨#[]⟩))]), none⟩,
      ⟨some 59, .op (.build [.string ⟨#[]⟩, .string ⟨#[]⟩] [(0, 1, .c (.string ⟨#[115, 116, 114, 105, 99, 116, 45, 116, 114, 97, 110, 115, 112, 111, 114, 116, 45, 115, 101, 99, 117, 114, 105, 116, 121]⟩)), (1, 1, .c (.string ⟨#[]⟩))]), none⟩,
      ⟨some 60, .op (.build [.string ⟨#[]⟩, .string ⟨#[]⟩] [(0, 1, .c (.string ⟨#[116, 114, 97, 110, 115, 102, 101, 114, 45, 101, 110, 99, 111, 100, 105, 110, 103]⟩)), (1, 1, .c (.string ⟨#[]⟩))]), none⟩,
      ⟨some 61, .op (.build [.string ⟨#[]⟩, .string ⟨#[]⟩] [(0, 1, .c (.string ⟨#[117, 115, 101, 114, 45, 97, 103, 101, 110, 116]⟩)), (1, 1, .c (.string ⟨#[]⟩))]), none⟩,
      ⟨some 62, .op (.build [.string ⟨#[]⟩, .string ⟨#[]⟩] [(0, 1, .c (.string ⟨#[118, 97, 114, 121]⟩)), (1, 1, .c (.string ⟨#[]⟩))]), none⟩,
      ⟨some 63, .op (.build [.string ⟨#[]⟩, .string ⟨#[]⟩] [(0, 1, .c (.string ⟨#[118, 105, 97]⟩)), (1, 1, .c (.string ⟨#[]⟩))]), none⟩,
      ⟨some 64, .op (.build [.string ⟨#[]⟩, .string ⟨#[]⟩] [(0, 1, .c (.string ⟨#[119, 119, 119, 45, 97, 117, 116, 104, 101, 110, 116, 105, 99, 97, 116, 101]⟩)), (1, 1, .c (.string ⟨#[]⟩))]), none⟩,
      ⟨some 65, .op (.build [.string ⟨#[]⟩, .string ⟨#[]⟩, .string ⟨#[]⟩, .string ⟨#[]⟩, .string ⟨#[]⟩, .string ⟨#[]⟩, .string ⟨#[]⟩, .string ⟨#[]⟩, .string ⟨#[]⟩, .string ⟨#[]⟩, .string ⟨#[]⟩, .string ⟨#[]⟩, .string ⟨#[]⟩, .string ⟨#[]⟩, .string ⟨#[]⟩, .string ⟨#[]⟩, .string ⟨#[]⟩, .string ⟨#[]⟩, .string ⟨#[]⟩, .string ⟨#[]⟩, .string ⟨#[]⟩, .string ⟨#[]⟩, .string ⟨#[]⟩, .string ⟨#[]⟩, .string ⟨#[]⟩, .string ⟨#[]⟩, .string ⟨#[]⟩, .string ⟨#[]⟩, .string ⟨#[]⟩, .string ⟨#[]⟩, .string ⟨#[]⟩, .string ⟨#[]⟩, .string ⟨#[]⟩, .string ⟨#[]⟩, .string ⟨#[]⟩, .string ⟨#[]⟩, .string ⟨#[]⟩, .string ⟨#[]⟩, .string ⟨#[]⟩, .string ⟨#[]⟩, .string ⟨#[]⟩, .string ⟨#[]⟩, .string ⟨#[]⟩, .string ⟨#[]⟩, .string ⟨#[]⟩, .string ⟨#[]⟩, .string ⟨#[]⟩, .string ⟨#[]⟩, .string ⟨#[]⟩, .string ⟨#[]⟩, .string ⟨#[]⟩, .string ⟨#[]⟩, .string ⟨#[]⟩, .string ⟨#[]⟩, .string ⟨#[]⟩, .string ⟨#[]⟩, .string ⟨#[]⟩, .string ⟨#[]⟩, .string ⟨#[]⟩, .string ⟨#[]⟩, .string ⟨#[]⟩, .string ⟨#[]⟩, .string ⟨#[]⟩, .string ⟨#[]⟩, .string ⟨#[]⟩, .string ⟨#[]⟩, .string ⟨#[]⟩, .string ⟨#[]⟩, .string ⟨#[]⟩, .string ⟨#[]⟩, .string ⟨#[]⟩, .string ⟨#[]⟩, .string ⟨#[]⟩, .string ⟨#[]⟩, .string ⟨#[]⟩, .string ⟨#[]⟩, .string ⟨#[]⟩, .string ⟨#[]⟩, .string ⟨#[]⟩, .string ⟨#[]⟩, .string ⟨#[]⟩, .string ⟨#[]⟩, .string ⟨#[]⟩, .string ⟨#[]⟩, .string ⟨#[]⟩, .string ⟨#[]⟩, .string ⟨#[]⟩, .string ⟨#[]⟩, .string ⟨#[]⟩, .string ⟨#[]⟩, .string ⟨#[]⟩, .string ⟨#[]⟩, .string ⟨#[]⟩, .string ⟨#[]⟩, .string ⟨#[]⟩, .string ⟨#[]⟩, .string ⟨#[]⟩, .string ⟨#[]⟩, .string ⟨#[]⟩, .string ⟨#[]⟩, .string ⟨#[]⟩, .string ⟨#[]⟩, .string ⟨#[]⟩, .string ⟨#[]⟩, .string ⟨#[]⟩, .string ⟨#[]⟩, .string ⟨#[]⟩, .string ⟨#[]⟩, .string ⟨#[]⟩, .string ⟨#[]⟩, .string ⟨#[]⟩, .string ⟨#[]⟩, .string ⟨#[]⟩, .string ⟨#[]⟩, .string ⟨#[]⟩, .string ⟨#[]⟩, .string ⟨#[]⟩, .string ⟨#[]⟩, .string ⟨#[]⟩, .string ⟨#[]⟩, .string ⟨#[]⟩, .string ⟨#[]⟩] [(0, 2, .t 4), (2, 2, .t 5), (4, 2, .t 6), (6, 2, .t 7), (8, 2, .t 8), (10, 2, .t 9), (12, 2, .t 10), (14, 2, .t 11), (16, 2, .t 12), (18, 2, .t 13), (20, 2, .t 14), (22, 2, .t 15), (24, 2, .t 16), (26, 2, .t 17), (28, 2, .t 18), (30, 2, .t 19), (32, 2, .t 20), (34, 2, .t 21), (36, 2, .t 22), (38, 2, .t 23), (40, 2, .t 24), (42, 2, .t 25), (44, 2, .t 26), (46, 2, .t 27), (48, 2, .t 28), (50, 2, .t 29), (52, 2, .t 30), (54, 2, .t 31), (56, 2, .t 32), (58, 2, .t 33), (60, 2, .t 34), (62, 2, .t 35), (64, 2, .t 36), (66, 2, .t 37), (68, 2, .t 38), (70, 2, .t 39), (72, 2, .t 40), (74, 2, .t 41), (76, 2, .t 42), (78, 2, .t 43), (80, 2, .t 44), (82, 2, .t 45), (84, 2, .t 46), (86, 2, .t 47), (88, 2, .t 48), (90, 2, .t 49), (92, 2, .t 50), (94, 2, .t 51), (96, 2, .t 52), (98, 2, .t 53), (100, 2, .t 54), (102, 2, .t 55), (104, 2, .t 56), (106, 2, .t 57), (108, 2, .t 58), (110, 2, .t 59), (112, 2, .t 60), (114, 2, .t 61), (116, 2, .t 62), (118, 2, .t 63), (120, 2, .t 64)]), none⟩,
      ⟨some 3, .op (.alloc [.string ⟨#[]⟩, .string ⟨#[]⟩, .string ⟨#[]⟩, .string ⟨#[]⟩, .string ⟨#[]⟩, .string ⟨#[]⟩, .string ⟨#[]⟩, .string ⟨#[]⟩, .string ⟨#[]⟩, .string ⟨#[]⟩, .string ⟨#[]⟩, .string ⟨#[]⟩, .string ⟨#[]⟩, .string ⟨#[]⟩, .string ⟨#[]⟩, .string ⟨#[]⟩, .string ⟨#[]⟩, .string ⟨#[]⟩, .string ⟨#[]⟩, .string ⟨#[]⟩, .string ⟨#[]⟩, .string ⟨#[]⟩, .string ⟨#[]⟩, .string ⟨#[]⟩, .string ⟨#[]⟩, .string ⟨#[]⟩, .string ⟨#[]⟩, .string ⟨#[]⟩, .string ⟨#[]⟩, .string ⟨#[]⟩, .string ⟨#[]⟩, .string ⟨#[]⟩, .string ⟨#[]⟩, .string ⟨#[]⟩, .string ⟨#[]⟩, .string ⟨#[]⟩, .string ⟨#[]⟩, .string ⟨#[]⟩, .string ⟨#[]⟩, .string ⟨#[]⟩, .string ⟨#[]⟩, .string ⟨#[]⟩, .string ⟨#[]⟩, .string ⟨#[]⟩, .string ⟨#[]⟩, .string ⟨#[]⟩, .string ⟨#[]⟩, .string ⟨#[]⟩, .string ⟨#[]⟩, .string ⟨#[]⟩, .string ⟨#[]⟩, .string ⟨#[]⟩, .string ⟨#[]⟩, .string ⟨#[]⟩, .string ⟨#[]⟩, .string ⟨#[]⟩, .string ⟨#[]⟩, .string ⟨#[]⟩, .string ⟨#[]⟩, .string ⟨#[]⟩, .string ⟨#[]⟩, .string ⟨#[]⟩, .string ⟨#[]⟩, .string ⟨#[]⟩, .string ⟨#[]⟩, .string ⟨#[]⟩, .string ⟨#[]⟩, .string ⟨#[]⟩, .string ⟨#[]⟩, .string ⟨#[]⟩, .string ⟨#[]⟩, .string ⟨#[]⟩, .string ⟨#[]⟩, .string ⟨#[]⟩, .string ⟨#[]⟩, .string ⟨#[]⟩, .string ⟨#[]⟩, .string ⟨#[]⟩, .string ⟨#[]⟩, .string ⟨#[]⟩, .string ⟨#[]⟩, .string ⟨#[]⟩, .string ⟨#[]⟩, .string ⟨#[]⟩, .string ⟨#[]⟩, .string ⟨#[]⟩, .string ⟨#[]⟩, .string ⟨#[]⟩, .string ⟨#[]⟩, .string ⟨#[]⟩, .string ⟨#[]⟩, .string ⟨#[]⟩, .string ⟨#[]⟩, .string ⟨#[]⟩, .string ⟨#[]⟩, .string ⟨#[]⟩, .string ⟨#[]⟩, .string ⟨#[]⟩, .string ⟨#[]⟩, .string ⟨#[]⟩, .string ⟨#[]⟩, .string ⟨#[]⟩, .string ⟨#[]⟩, .string ⟨#[]⟩, .string ⟨#[]⟩, .string ⟨#[]⟩, .string ⟨#[]⟩, .string ⟨#[]⟩, .string ⟨#[]⟩, .string ⟨#[]⟩, .string ⟨#[]⟩, .string ⟨#[]⟩, .string ⟨#[]⟩, .string ⟨#[]⟩, .string ⟨#[]⟩, .string ⟨#[]⟩, .string ⟨#[]⟩, .string ⟨#[]⟩, .string ⟨#[]⟩, .string ⟨#[]⟩, .string ⟨#[]⟩, .string ⟨#[]⟩]), none⟩,
      ⟨none, .op (.store 122 (.t 3) (.t 65)), none⟩] [0, 2, 3])
  (.seq (.region [⟨some 66, .op (.mov (.t 0)), none⟩,
      ⟨some 67, .op (.bin .sub .basic (.t 66) (.c (.int .i64 1))), none⟩,
      ⟨some 68, .op (.idxAddrA 61 2 (.t 3) (.t 67)), none⟩,
      ⟨some 69, .op (.loadN 2 (.t 68)), none⟩,
      ⟨none, .op (.store 2 (.t 2) (.t 69)), none⟩] [2])
  (.ret)))⟩

theorem lf16_ok : cFunc Try.prog Try.f16 [[0, 2], [0, 2, 3], [2]] = some lf16 := by kernel_rfl

/-- squint/squintref07.Decode -/
def lf24 : LFunc := ⟨161, [.cellN 4 5, .tmp 5, .tmp 6],
  .seq (.region [⟨some 2, .op (.box (.t 0)), none⟩,
      ⟨some 4, .op (.alloc [.slice none 0 0, .int .i64 0, .int .i64 0, .int .i64 0, .bool false]), none⟩,
      ⟨some 5, .op (.mov (.c (.slice none 0 0))), none⟩,
      ⟨some 6, .op (.mov (.c (.int .i64 0))), none⟩] [1, 2, 4])
  (.seq (.seq (.region [⟨some 20, .op (.fieldAddr 4 (.t 2)), none⟩,
        ⟨some 21, .op (.load1 (.t 20)), none⟩] [1, 2, 4, 21])
    (.cond (.t 21)
      (.seq (.region [⟨some 22, .op (.loadN 5 (.t 2)), none⟩,
          ⟨none, .op (.store 5 (.t 4) (.t 22)), none⟩,
          ⟨some 5, .op (.mov (.c (.slice none 0 0))), none⟩,
          ⟨some 6, .op (.mov (.c (.int .i64 25))), none⟩] [4, 5, 6])
      (.ret))
      (.skip)))
  (.seq (.region [⟨some 7, .op (.mov (.c (.slice none 0 0))), none⟩] [1, 2, 4, 7])
  (.seq (.region [⟨some 8, .op (.mov (.c (.int .i64 0))), none⟩] [1, 2, 4, 7, 8])
  (.seq (.block 0 (.loop (.seq (.seq (.region [⟨some 23, .op (.mov (.t 1)), none⟩,
              ⟨some 24, .op (.lenStr (.t 23)), none⟩,
              ⟨some 25, .op (.bin .gtr .basic (.t 24) (.c (.int .i64 0))), none⟩] [1, 2, 4, 7, 8, 25])
          (.cond (.t 25)
            (.skip)
            (.exit 0)))
        (.block 1 (.seq (.region [⟨some 26, .op (.mov (.t 1)), none⟩,
              ⟨some 27, .op (.idxStr (.t 26) (.c (.int .i64 0))), none⟩,
              ⟨some 9, .op (.mov (.t 27)), none⟩] [1, 2, 4, 7, 8, 9])
          (.seq (.region [⟨some 29, .op (.mov (.t 1)), none⟩,
              ⟨some 30, .op (.mov (.t 9)), none⟩,
              ⟨some 31, .call (.c (.func (.func 50) #[] #[])) [.t 30], none⟩,
              ⟨some 32, .call (.c (.func (.func 49) #[] #[])) [.t 29, .t 31], none⟩,
              ⟨some 28, .op (.mov (.t 32)), none⟩,
              ⟨some 33, .op (.extract 0 (.t 28)), none⟩,
              ⟨some 34, .op (.extract 1 (.t 28)), none⟩,
              ⟨some 35, .op (.extract 2 (.t 28)), none⟩,
              ⟨some 10, .op (.mov (.t 33)), none⟩,
              ⟨some 11, .op (.mov (.t 34)), none⟩,
              ⟨some 12, .op (.mov (.t 35)), none⟩] [1, 2, 4, 7, 8, 9, 10, 11, 12])
          (.seq (.seq (.region [⟨some 36, .op (.mov (.t 12)), none⟩,
                ⟨some 37, .op (.bin .neq .basic (.t 36) (.c (.int .i64 0))), none⟩] [1, 2, 4, 7, 8, 9, 10, 11, 12, 37])
            (.cond (.t 37)
              (.seq (.region [⟨some 38, .op (.fieldAddr 4 (.t 2)), none⟩,
                  ⟨none, .op (.store 1 (.t 38) (.c (.bool true))), none⟩] [2, 4, 12])
              (.seq (.region [⟨some 39, .op (.loadN 5 (.t 2)), none⟩,
                  ⟨some 40, .op (.mov (.t 12)), none⟩,
                  ⟨none, .op (.store 5 (.t 4) (.t 39)), none⟩,
                  ⟨some 5, .op (.mov (.c (.slice none 0 0))), none⟩,
                  ⟨some 6, .op (.mov (.t 40)), none⟩] [4, 5, 6])
              (.ret)))
              (.skip)))
          (.seq (.region [⟨some 41, .op (.mov (.t 1)), none⟩,
              ⟨some 42, .op (.mov (.t 11)), none⟩,
              ⟨some 43, .op (.sliceStr (.t 41) (some (.t 42)) none), none⟩,
              ⟨some 1, .op (.mov (.t 43)), none⟩] [1, 2, 4, 7, 8, 9, 10])
          (.seq (.seq (.region [⟨some 44, .op (.mov (.t 9)), none⟩,
                ⟨some 45, .op (.bin .geq .basic (.t 44) (.c (.int .u8 32))), none⟩,
                ⟨some 46, .op (.mov (.t 45)), none⟩,
                ⟨some 47, .op (.mov (.t 9)), some (46, true)⟩,
                ⟨some 48, .op (.bin .lss .basic (.t 47) (.c (.int .u8 64))), some (46, true)⟩,
                ⟨some 49, .pick (.t 46) (.t 48) (.c (.bool false)), none⟩] [1, 2, 4, 7, 8, 9, 10, 49])
            (.cond (.t 49)
              (.seq (.seq (.region [⟨some 50, .op (.mov (.t 7)), none⟩,
                    ⟨some 51, .op (.lenS (.t 50)), none⟩,
                    ⟨some 52, .op (.bin .gtr .basic (.t 51) (.c (.int .i64 0))), none⟩,
                    ⟨some 53, .op (.mov (.t 52)), none⟩,
                    ⟨some 54, .op (.mov (.t 10)), some (53, false)⟩,
                    ⟨some 55, .op (.fieldAddr 2 (.t 2)), some (53, false)⟩,
                    ⟨some 56, .op (.load1 (.t 55)), some (53, false)⟩,
                    ⟨some 57, .op (.bin .gtr .basic (.t 54) (.t 56)), some (53, false)⟩,
                    ⟨some 58, .pick (.t 53) (.c (.bool true)) (.t 57), none⟩] [1, 2, 4, 7, 8, 10, 58])
                (.cond (.t 58)
                  (.seq (.region [⟨some 59, .op (.fieldAddr 4 (.t 2)), none⟩,
                      ⟨none, .op (.store 1 (.t 59) (.c (.bool true))), none⟩] [2, 4])
                  (.seq (.region [⟨some 60, .op (.loadN 5 (.t 2)), none⟩,
                      ⟨none, .op (.store 5 (.t 4) (.t 60)), none⟩,
                      ⟨some 5, .op (.mov (.c (.slice none 0 0))), none⟩,
                      ⟨some 6, .op (.mov (.c (.int .i64 24))), none⟩] [4, 5, 6])
                  (.ret)))
                  (.skip)))
              (.seq (.region [⟨some 61, .op (.mov (.t 10)), none⟩,
                  ⟨some 62, .op (.fieldAddr 1 (.t 2)), none⟩,
                  ⟨none, .op (.store 1 (.t 62) (.t 61)), none⟩] [1, 2, 4, 7, 8, 10])
              (.seq (.region [⟨some 63, .op (.fieldAddr 0 (.t 2)), none⟩,
                  ⟨some 64, .op (.load1 (.t 63)), none⟩,
                  ⟨some 65, .op (.mov (.t 10)), none⟩,
                  ⟨some 66, .call (.c (.func (.func 51) #[] #[])) [.t 64, .t 65], none⟩,
                  ⟨some 67, .op (.fieldAddr 0 (.t 2)), none⟩,
                  ⟨none, .op (.store 1 (.t 67) (.t 66)), none⟩] [1, 2, 4, 7, 8])
              (.exit 1))))
              (.skip)))
          (.seq (.region [⟨some 13, .op (.alloc [.string ⟨#[]⟩, .string ⟨#[]⟩]), none⟩] [1, 2, 4, 7, 8, 9, 10, 13])
          (.seq (.seq (.region [⟨some 68, .op (.mov (.t 10)), none⟩,
                ⟨some 69, .op (.bin .gtr .basic (.t 68) (.c (.int .i64 0))), none⟩,
                ⟨some 70, .op (.mov (.t 69)), none⟩,
                ⟨some 71, .op (.mov (.t 9)), some (70, false)⟩,
                ⟨some 72, .op (.bin .geq .basic (.t 71) (.c (.int .u8 128))), some (70, false)⟩,
                ⟨some 73, .pick (.t 70) (.c (.bool true)) (.t 72), none⟩] [1, 2, 4, 7, 8, 9, 10, 13, 73])
            (.cond (.t 73)
              (.seq (.region [⟨some 14, .op (.mov (.c (.int .i64 0))), none⟩] [1, 2, 4, 7, 8, 9, 10, 13])
              (.seq (.region [⟨some 75, .op (.loadN 5 (.t 2)), none⟩,
                  ⟨some 76, .op (.mov (.t 10)), none⟩,
                  ⟨some 77, .call (.c (.func (.func 52) #[] #[])) [.t 75, .t 76], none⟩,
                  ⟨some 74, .op (.mov (.t 77)), none⟩,
                  ⟨some 78, .op (.extract 0 (.t 74)), none⟩,
                  ⟨some 79, .op (.extract 1 (.t 74)), none⟩,
                  ⟨none, .op (.store 2 (.t 13) (.t 78)), none⟩,
                  ⟨some 14, .op (.mov (.t 79)), none⟩] [1, 2, 4, 7, 8, 9, 10, 13, 14])
              (.seq (.region [⟨some 80, .op (.mov (.t 14)), none⟩,
                  ⟨some 81, .op (.bin .eql .basic (.t 80) (.c (.int .i64 0))), none⟩] [1, 2, 4, 7, 8, 9, 10, 13, 81])
              (.cond (.t 81)
                (.seq (.region [⟨some 82, .op (.fieldAddr 4 (.t 2)), none⟩,
                    ⟨none, .op (.store 1 (.t 82) (.c (.bool true))), none⟩] [2, 4])
                (.seq (.region [⟨some 83, .op (.loadN 5 (.t 2)), none⟩,
                    ⟨none, .op (.store 5 (.t 4) (.t 83)), none⟩,
                    ⟨some 5, .op (.mov (.c (.slice none 0 0))), none⟩,
                    ⟨some 6, .op (.mov (.c (.int .i64 23))), none⟩] [4, 5, 6])
                (.ret)))
                (.skip)))))
              (.skip)))
          (.seq (.seq (.region [⟨some 15, .op (.mov (.c (.int .i64 0))), none⟩] [1, 2, 4, 7, 8, 9, 10, 13, 15])
            (.block 2 (.loop (.seq (.seq (.region [⟨some 84, .op (.mov (.t 15)), none⟩,
                      ⟨some 85, .op (.bin .lss .basic (.t 84) (.c (.int .i64 2))), none⟩] [1, 2, 4, 7, 8, 9, 10, 13, 15, 85])
                  (.cond (.t 85)
                    (.skip)
                    (.exit 2)))
                (.seq (.block 3 (.seq (.seq (.region [⟨some 88, .op (.mov (.t 9)), none⟩,
                          ⟨some 89, .op (.bin .geq .basic (.t 88) (.c (.int .u8 128))), none⟩,
                          ⟨some 90, .op (.mov (.t 89)), none⟩,
                          ⟨some 91, .op (.mov (.t 15)), some (90, false)⟩,
                          ⟨some 92, .op (.bin .eql .basic (.t 91) (.c (.int .i64 0))), some (90, false)⟩,
                          ⟨some 93, .op (.mov (.t 92)), some (90, false)⟩,
                          ⟨some 94, .op (.mov (.t 10)), some (93, true)⟩,
                          ⟨some 95, .op (.bin .gtr .basic (.t 94) (.c (.int .i64 0))), some (93, true)⟩,
                          ⟨some 96, .pick (.t 93) (.t 95) (.c (.bool false)), some (90, false)⟩,
                          ⟨some 97, .pick (.t 90) (.c (.bool true)) (.t 96), none⟩] [1, 2, 4, 7, 8, 9, 10, 13, 15, 97])
                      (.cond (.t 97)
                        (.exit 3)
                        (.skip)))
                    (.seq (.region [⟨some 99, .op (.mov (.t 1)), none⟩,
                        ⟨some 100, .call (.c (.func (.func 53) #[] #[])) [.t 99, .c (.int .i64 4096)], none⟩,
                        ⟨some 98, .op (.mov (.t 100)), none⟩,
                        ⟨some 101, .op (.extract 0 (.t 98)), none⟩,
                        ⟨some 102, .op (.extract 1 (.t 98)), none⟩,
                        ⟨some 103, .op (.extract 2 (.t 98)), none⟩,
                        ⟨some 16, .op (.mov (.t 101)), none⟩,
                        ⟨some 17, .op (.mov (.t 102)), none⟩,
                        ⟨some 18, .op (.mov (.t 103)), none⟩] [1, 2, 4, 7, 8, 9, 10, 13, 15, 16, 17, 18])
                    (.seq (.seq (.region [⟨some 104, .op (.mov (.t 18)), none⟩,
                          ⟨some 105, .op (.bin .neq .basic (.t 104) (.c (.int .i64 0))), none⟩] [1, 2, 4, 7, 8, 9, 10, 13, 15, 16, 17, 18, 105])
                      (.cond (.t 105)
                        (.seq (.region [⟨some 106, .op (.fieldAddr 4 (.t 2)), none⟩,
                            ⟨none, .op (.store 1 (.t 106) (.c (.bool true))), none⟩] [2, 4, 18])
                        (.seq (.region [⟨some 107, .op (.loadN 5 (.t 2)), none⟩,
                            ⟨some 108, .op (.mov (.t 18)), none⟩,
                            ⟨none, .op (.store 5 (.t 4) (.t 107)), none⟩,
                            ⟨some 5, .op (.mov (.c (.slice none 0 0))), none⟩,
                            ⟨some 6, .op (.mov (.t 108)), none⟩] [4, 5, 6])
                        (.ret)))
                        (.skip)))
                    (.seq (.region [⟨some 109, .op (.mov (.t 1)), none⟩,
                        ⟨some 110, .op (.mov (.t 17)), none⟩,
                        ⟨some 111, .op (.sliceStr (.t 109) (some (.t 110)) none), none⟩,
                        ⟨some 1, .op (.mov (.t 111)), none⟩] [1, 2, 4, 7, 8, 9, 10, 13, 15, 16])
                    (.region [⟨some 112, .op (.mov (.t 15)), none⟩,
                      ⟨some 113, .op (.mov (.t 16)), none⟩,
                      ⟨some 114, .op (.idxAddrA 2 1 (.t 13) (.t 112)), none⟩,
                      ⟨none, .op (.store 1 (.t 114) (.t 113)), none⟩] [1, 2, 4, 7, 8, 9, 10, 13, 15]))))))
                (.region [⟨some 86, .op (.mov (.t 15)), none⟩,
                  ⟨some 87, .op (.bin .add .basic (.t 86) (.c (.int .i64 1))), none⟩,
                  ⟨some 15, .op (.mov (.t 87)), none⟩] [1, 2, 4, 7, 8, 9, 10, 13, 15]))))))
          (.seq (.seq (.region [⟨some 115, .op (.mov (.t 9)), none⟩,
                ⟨some 116, .op (.bin .geq .basic (.t 115) (.c (.int .u8 64))), none⟩,
                ⟨some 117, .op (.mov (.t 116)), none⟩,
                ⟨some 118, .op (.mov (.t 9)), some (117, true)⟩,
                ⟨some 119, .op (.bin .lss .basic (.t 118) (.c (.int .u8 128))), some (117, true)⟩,
                ⟨some 120, .pick (.t 117) (.t 119) (.c (.bool false)), none⟩] [1, 2, 4, 7, 8, 9, 13, 120])
            (.cond (.t 120)
              (.region [⟨some 121, .op (.fieldAddr 0 (.t 2)), none⟩,
                ⟨some 122, .op (.load1 (.t 121)), none⟩,
                ⟨some 123, .op (.fieldAddr 1 (.t 2)), none⟩,
                ⟨some 124, .op (.load1 (.t 123)), none⟩,
                ⟨some 125, .op (.loadN 2 (.t 13)), none⟩,
                ⟨some 126, .call (.c (.func (.func 54) #[] #[])) [.t 122, .t 124, .t 125], none⟩,
                ⟨some 127, .op (.fieldAddr 0 (.t 2)), none⟩,
                ⟨none, .op (.store 1 (.t 127) (.t 126)), none⟩] [1, 2, 4, 7, 8, 9, 13])
              (.skip)))
          (.seq (.region [⟨some 19, .op (.mov (.c (.int .i64 0))), none⟩] [1, 2, 4, 7, 8, 9, 13, 19])
          (.seq (.seq (.region [⟨some 128, .op (.mov (.t 9)), none⟩,
                ⟨some 129, .op (.bin .geq .basic (.t 128) (.c (.int .u8 16))), none⟩,
                ⟨some 130, .op (.mov (.t 129)), none⟩,
                ⟨some 131, .op (.mov (.t 9)), some (130, true)⟩,
                ⟨some 132, .op (.bin .lss .basic (.t 131) (.c (.int .u8 32))), some (130, true)⟩,
                ⟨some 133, .pick (.t 130) (.t 132) (.c (.bool false)), none⟩] [1, 2, 4, 7, 8, 13, 19, 133])
            (.cond (.t 133)
              (.region [⟨some 19, .op (.mov (.c (.int .i64 1))), none⟩] [1, 2, 4, 7, 8, 13, 19])
              (.skip)))
          (.seq (.region [⟨some 134, .op (.mov (.t 7)), none⟩,
              ⟨some 135, .op (.idxAddrA 2 1 (.t 13) (.c (.int .i64 0))), none⟩,
              ⟨some 136, .op (.load1 (.t 135)), none⟩,
              ⟨some 137, .op (.idxAddrA 2 1 (.t 13) (.c (.int .i64 1))), none⟩,
              ⟨some 138, .op (.load1 (.t 137)), none⟩,
              ⟨some 139, .op (.mov (.t 19)), none⟩,
              ⟨some 140, .op (.build [.string ⟨#[]⟩, .string ⟨#[]⟩, .int .i64 0] [(0, 1, .t 136), (1, 1, .t 138), (2, 1, .t 139)]), none⟩,
              ⟨some 141, .op (.buildSlice 1 3 [.string ⟨#[]⟩, .string ⟨#[]⟩, .int .i64 0] [(0, 3, .t 140)]), none⟩,
              ⟨some 142, .op (.append 3 40 (.t 134) (.t 141)), none⟩,
              ⟨some 7, .op (.mov (.t 142)), none⟩] [1, 2, 4, 7, 8, 13])
          (.seq (.region [⟨some 143, .op (.mov (.t 8)), none⟩,
              ⟨some 144, .op (.idxAddrA 2 1 (.t 13) (.c (.int .i64 0))), none⟩,
              ⟨some 145, .op (.load1 (.t 144)), none⟩,
              ⟨some 146, .op (.lenStr (.t 145)), none⟩,
              ⟨some 147, .op (.idxAddrA 2 1 (.t 13) (.c (.int .i64 1))), none⟩,
              ⟨some 148, .op (.load1 (.t 147)), none⟩,
              ⟨some 149, .op (.lenStr (.t 148)), none⟩,
              ⟨some 150, .op (.bin .add .basic (.t 146) (.t 149)), none⟩,
              ⟨some 151, .op (.bin .add .basic (.t 150) (.c (.int .i64 32))), none⟩,
              ⟨some 152, .op (.bin .add .basic (.t 143) (.t 151)), none⟩,
              ⟨some 8, .op (.mov (.t 152)), none⟩] [1, 2, 4, 7, 8])
          (.seq (.region [⟨some 153, .op (.mov (.t 8)), none⟩,
              ⟨some 154, .op (.fieldAddr 3 (.t 2)), none⟩,
              ⟨some 155, .op (.load1 (.t 154)), none⟩,
              ⟨some 156, .op (.bin .gtr .basic (.t 153) (.t 155)), none⟩] [1, 2, 4, 7, 8, 156])
          (.cond (.t 156)
            (.seq (.region [⟨some 157, .op (.fieldAddr 4 (.t 2)), none⟩,
                ⟨none, .op (.store 1 (.t 157) (.c (.bool true))), none⟩] [2, 4])
            (.seq (.region [⟨some 158, .op (.loadN 5 (.t 2)), none⟩,
                ⟨none, .op (.store 5 (.t 4) (.t 158)), none⟩,
                ⟨some 5, .op (.mov (.c (.slice none 0 0))), none⟩,
                ⟨some 6, .op (.mov (.c (.int .i64 22))), none⟩] [4, 5, 6])
            (.ret)))
            (.skip))))))))))))))))))))
  (.seq (.region [⟨some 159, .op (.loadN 5 (.t 2)), none⟩,
      ⟨some 160, .op (.mov (.t 7)), none⟩,
      ⟨none, .op (.store 5 (.t 4) (.t 159)), none⟩,
      ⟨some 5, .op (.mov (.t 160)), none⟩,
      ⟨some 6, .op (.mov (.c (.int .i64 0))), none⟩] [4, 5, 6])
  (.ret))))))⟩

theorem lf24_ok : cFunc Try.prog Try.f24 [[1, 2, 4], [1, 2, 4, 21], [4, 5, 6], [1, 2, 4, 7], [1, 2, 4, 7, 8], [1, 2, 4, 7, 8, 25], [1, 2, 4, 7, 8, 9], [1, 2, 4, 7, 8, 9, 10, 11, 12], [1, 2, 4, 7, 8, 9, 10, 11, 12, 37], [2, 4, 12], [4, 5, 6], [1, 2, 4, 7, 8, 9, 10], [1, 2, 4, 7, 8, 9, 10, 49], [1, 2, 4, 7, 8, 10, 58], [2, 4], [4, 5, 6], [1, 2, 4, 7, 8, 10], [1, 2, 4, 7, 8], [1, 2, 4, 7, 8, 9, 10, 13], [1, 2, 4, 7, 8, 9, 10, 13, 73], [1, 2, 4, 7, 8, 9, 10, 13], [1, 2, 4, 7, 8, 9, 10, 13, 14], [1, 2, 4, 7, 8, 9, 10, 13, 81], [2, 4], [4, 5, 6], [1, 2, 4, 7, 8, 9, 10, 13, 15], [1, 2, 4, 7, 8, 9, 10, 13, 15, 85], [1, 2, 4, 7, 8, 9, 10, 13, 15, 97], [1, 2, 4, 7, 8, 9, 10, 13, 15, 16, 17, 18], [1, 2, 4, 7, 8, 9, 10, 13, 15, 16, 17, 18, 105], [2, 4, 18], [4, 5, 6], [1, 2, 4, 7, 8, 9, 10, 13, 15, 16], [1, 2, 4, 7, 8, 9, 10, 13, 15], [1, 2, 4, 7, 8, 9, 10, 13, 15], [1, 2, 4, 7, 8, 9, 13, 120], [1, 2, 4, 7, 8, 9, 13], [1, 2, 4, 7, 8, 9, 13, 19], [1, 2, 4, 7, 8, 13, 19, 133], [1, 2, 4, 7, 8, 13, 19], [1, 2, 4, 7, 8, 13], [1, 2, 4, 7, 8], [1, 2, 4, 7, 8, 156], [2, 4], [4, 5, 6], [4, 5, 6]] = some lf24 := by kernel_rfl

/-- squint/squintref08.Line -/
def lf37 : LFunc := ⟨40, [.tmp 6],
  .seq (.region [⟨some 6, .op (.mov (.c (.string ⟨#[]⟩))), none⟩] [0, 1, 2])
  (.seq (.region [⟨some 12, .op (.mov (.t 0)), none⟩,
      ⟨some 13, .op (.mov (.t 1)), none⟩,
      ⟨some 14, .call (.c (.func (.func 60) #[] #[])) [.t 12, .t 13], none⟩,
      ⟨some 11, .op (.mov (.t 14)), none⟩,
      ⟨some 15, .op (.extract 0 (.t 11)), none⟩,
      ⟨some 16, .op (.extract 1 (.t 11)), none⟩,
      ⟨some 7, .op (.mov (.t 15)), none⟩,
      ⟨some 8, .op (.mov (.t 16)), none⟩] [0, 1, 2, 7, 8])
  (.seq (.seq (.region [⟨some 17, .op (.mov (.t 8)), none⟩,
        ⟨some 18, .op (.bin .eql .basic (.t 17) (.c (.int .i64 1))), none⟩,
        ⟨some 19, .op (.mov (.t 18)), none⟩,
        ⟨some 20, .op (.mov (.t 2)), some (19, true)⟩,
        ⟨some 21, .op (.bin .eql .basic (.t 20) (.c (.int .i64 0))), some (19, true)⟩,
        ⟨some 22, .pick (.t 19) (.t 21) (.c (.bool false)), none⟩] [0, 1, 2, 7, 22])
    (.cond (.t 22)
      (.seq (.region [⟨some 23, .op (.mov (.t 7)), none⟩,
          ⟨some 24, .call (.c (.func (.func 61) #[] #[])) [.t 23, .c (.int .i64 7), .c (.int .i64 1)], none⟩,
          ⟨some 6, .op (.mov (.t 24)), none⟩] [6])
      (.ret))
      (.skip)))
  (.seq (.region [⟨some 25, .op (.mov (.t 0)), none⟩,
      ⟨some 26, .call (.c (.func (.func 62) #[] #[])) [.t 25], none⟩,
      ⟨some 9, .op (.mov (.t 26)), none⟩] [0, 1, 2, 9])
  (.seq (.region [⟨some 27, .op (.mov (.t 9)), none⟩,
      ⟨some 28, .op (.mov (.t 2)), none⟩,
      ⟨some 29, .call (.c (.func (.func 61) #[] #[])) [.t 27, .c (.int .i64 4), .t 28], none⟩,
      ⟨some 10, .op (.mov (.t 29)), none⟩] [0, 1, 9, 10])
  (.seq (.seq (.region [⟨some 30, .op (.mov (.t 9)), none⟩,
        ⟨some 31, .op (.bin .eql .basic (.t 30) (.c (.int .i64 0))), none⟩] [0, 1, 10, 31])
    (.cond (.t 31)
      (.region [⟨some 32, .op (.mov (.t 10)), none⟩,
        ⟨some 33, .op (.mov (.t 0)), none⟩,
        ⟨some 34, .call (.c (.func (.func 63) #[] #[])) [.t 33], none⟩,
        ⟨some 35, .op (.bin .add .basic (.t 32) (.t 34)), none⟩,
        ⟨some 10, .op (.mov (.t 35)), none⟩] [1, 10])
      (.skip)))
  (.seq (.region [⟨some 36, .op (.mov (.t 10)), none⟩,
      ⟨some 37, .op (.mov (.t 1)), none⟩,
      ⟨some 38, .call (.c (.func (.func 63) #[] #[])) [.t 37], none⟩,
      ⟨some 39, .op (.bin .add .basic (.t 36) (.t 38)), none⟩,
      ⟨some 6, .op (.mov (.t 39)), none⟩] [6])
  (.ret)))))))⟩

theorem lf37_ok : cFunc Try.prog Try.f37 [[0, 1, 2], [0, 1, 2, 7, 8], [0, 1, 2, 7, 22], [6], [0, 1, 2, 9], [0, 1, 9, 10], [0, 1, 10, 31], [1, 10], [6]] = some lf37 := by kernel_rfl

/-- squint/squintref03.Decode -/
def lf49 : LFunc := ⟨57, [.tmp 4, .tmp 5, .tmp 6],
  .seq (.region [⟨some 4, .op (.mov (.c (.int .i64 0))), none⟩,
      ⟨some 5, .op (.mov (.c (.int .i64 0))), none⟩,
      ⟨some 6, .op (.mov (.c (.int .i64 0))), none⟩] [0, 1])
  (.seq (.seq (.region [⟨some 11, .op (.mov (.t 0)), none⟩,
        ⟨some 12, .op (.lenStr (.t 11)), none⟩,
        ⟨some 13, .op (.bin .eql .basic (.t 12) (.c (.int .i64 0))), none⟩] [0, 1, 13])
    (.cond (.t 13)
      (.seq (.region [⟨some 4, .op (.mov (.c (.int .i64 0))), none⟩,
          ⟨some 5, .op (.mov (.c (.int .i64 0))), none⟩,
          ⟨some 6, .op (.mov (.c (.int .i64 16))), none⟩] [4, 5, 6])
      (.ret))
      (.skip)))
  (.seq (.region [⟨some 14, .op (.mov (.t 1)), none⟩,
      ⟨some 15, .call (.c (.func (.func 75) #[] #[])) [.t 14], none⟩,
      ⟨some 16, .op (.bin .sub .basic (.t 15) (.c (.int .i64 1))), none⟩,
      ⟨some 7, .op (.mov (.t 16)), none⟩] [0, 1, 7])
  (.seq (.dregion [(⟨some 17, .op (.mov (.t 0)), none⟩, 0, 1),
      (⟨some 18, .op (.idxStr (.t 17) (.c (.int .i64 0))), none⟩, 0, 1),
      (⟨some 19, .op (.convInt .i64 (.t 18)), none⟩, 0, 1),
      (⟨some 20, .op (.mov (.t 1)), none⟩, 0, 0),
      (⟨some 21, .call (.c (.func (.func 75) #[] #[])) [.t 20], none⟩, 0, 1),
      (⟨some 22, .op (.bin .rem .basic (.t 19) (.t 21)), none⟩, 1, 1),
      (⟨some 8, .op (.mov (.t 22)), none⟩, 1, 1)] [0, 7, 8])
  (.seq (.seq (.region [⟨some 23, .op (.mov (.t 8)), none⟩,
        ⟨some 24, .op (.mov (.t 7)), none⟩,
        ⟨some 25, .op (.bin .lss .basic (.t 23) (.t 24)), none⟩] [0, 8, 25])
    (.cond (.t 25)
      (.seq (.region [⟨some 26, .op (.mov (.t 8)), none⟩,
          ⟨some 4, .op (.mov (.t 26)), none⟩,
          ⟨some 5, .op (.mov (.c (.int .i64 1))), none⟩,
          ⟨some 6, .op (.mov (.c (.int .i64 0))), none⟩] [4, 5, 6])
      (.ret))
      (.skip)))
  (.seq (.region [⟨some 9, .op (.mov (.c (.int .i64 1))), none⟩] [0, 8, 9])
  (.seq (.seq (.region [⟨some 10, .op (.mov (.c (.int .i64 1))), none⟩] [0, 8, 9, 10])
    (.block 0 (.loop (.seq (.seq (.region [⟨some 27, .op (.mov (.t 10)), none⟩,
              ⟨some 28, .op (.bin .leq .basic (.t 27) (.c (.int .i64 6))), none⟩] [0, 8, 9, 10, 28])
          (.cond (.t 28)
            (.skip)
            (.exit 0)))
        (.seq (.block 1 (.seq (.seq (.region [⟨some 31, .op (.mov (.t 10)), none⟩,
                  ⟨some 32, .op (.mov (.t 0)), none⟩,
                  ⟨some 33, .op (.lenStr (.t 32)), none⟩,
                  ⟨some 34, .op (.bin .geq .basic (.t 31) (.t 33)), none⟩] [0, 8, 9, 10, 34])
              (.cond (.t 34)
                (.seq (.region [⟨some 4, .op (.mov (.c (.int .i64 0))), none⟩,
                    ⟨some 5, .op (.mov (.c (.int .i64 0))), none⟩,
                    ⟨some 6, .op (.mov (.c (.int .i64 16))), none⟩] [4, 5, 6])
                (.ret))
                (.skip)))
            (.seq (.seq (.region [⟨some 35, .op (.mov (.t 10)), none⟩,
                  ⟨some 36, .op (.bin .eql .basic (.t 35) (.c (.int .i64 6))), none⟩] [0, 8, 9, 10, 36])
              (.cond (.t 36)
                (.exit 0)
                (.skip)))
            (.seq (.region [⟨some 37, .op (.mov (.t 8)), none⟩,
                ⟨some 38, .op (.mov (.t 0)), none⟩,
                ⟨some 39, .op (.mov (.t 10)), none⟩,
                ⟨some 40, .op (.idxStr (.t 38) (.t 39)), none⟩,
                ⟨some 41, .op (.convInt .i64 (.t 40)), none⟩,
                ⟨some 42, .op (.bin .rem .basic (.t 41) (.c (.int .i64 128))), none⟩,
                ⟨some 43, .op (.mov (.t 9)), none⟩,
                ⟨some 44, .op (.bin .mul .basic (.t 42) (.t 43)), none⟩,
                ⟨some 45, .op (.bin .add .basic (.t 37) (.t 44)), none⟩,
                ⟨some 8, .op (.mov (.t 45)), none⟩] [0, 8, 9, 10])
            (.seq (.region [⟨some 46, .op (.mov (.t 9)), none⟩,
                ⟨some 47, .op (.bin .mul .basic (.t 46) (.c (.int .i64 128))), none⟩,
                ⟨some 9, .op (.mov (.t 47)), none⟩] [0, 8, 9, 10])
            (.seq (.seq (.region [⟨some 48, .op (.mov (.t 8)), none⟩,
                  ⟨some 49, .op (.bin .gtr .basic (.t 48) (.c (.int .i64 2147483647))), none⟩] [0, 8, 9, 10, 49])
              (.cond (.t 49)
                (.seq (.region [⟨some 4, .op (.mov (.c (.int .i64 0))), none⟩,
                    ⟨some 5, .op (.mov (.c (.int .i64 0))), none⟩,
                    ⟨some 6, .op (.mov (.c (.int .i64 22))), none⟩] [4, 5, 6])
                (.ret))
                (.skip)))
            (.seq (.region [⟨some 50, .op (.mov (.t 0)), none⟩,
                ⟨some 51, .op (.mov (.t 10)), none⟩,
                ⟨some 52, .op (.idxStr (.t 50) (.t 51)), none⟩,
                ⟨some 53, .op (.bin .lss .basic (.t 52) (.c (.int .u8 128))), none⟩] [0, 8, 9, 10, 53])
            (.cond (.t 53)
              (.seq (.region [⟨some 54, .op (.mov (.t 8)), none⟩,
                  ⟨some 55, .op (.mov (.t 10)), none⟩,
                  ⟨some 56, .op (.bin .add .basic (.t 55) (.c (.int .i64 1))), none⟩,
                  ⟨some 4, .op (.mov (.t 54)), none⟩,
                  ⟨some 5, .op (.mov (.t 56)), none⟩,
                  ⟨some 6, .op (.mov (.c (.int .i64 0))), none⟩] [4, 5, 6])
              (.ret))
              (.skip)))))))))
        (.region [⟨some 29, .op (.mov (.t 10)), none⟩,
          ⟨some 30, .op (.bin .add .basic (.t 29) (.c (.int .i64 1))), none⟩,
          ⟨some 10, .op (.mov (.t 30)), none⟩] [0, 8, 9, 10]))))))
  (.seq (.region [⟨some 4, .op (.mov (.c (.int .i64 0))), none⟩,
      ⟨some 5, .op (.mov (.c (.int .i64 0))), none⟩,
      ⟨some 6, .op (.mov (.c (.int .i64 22))), none⟩] [4, 5, 6])
  (.ret))))))))⟩

theorem lf49_ok : cFunc Try.prog Try.f49 [[0, 1], [0, 1, 13], [4, 5, 6], [0, 1, 7], [0, 7, 8], [0, 8, 25], [4, 5, 6], [0, 8, 9], [0, 8, 9, 10], [0, 8, 9, 10, 28], [0, 8, 9, 10, 34], [4, 5, 6], [0, 8, 9, 10, 36], [0, 8, 9, 10], [0, 8, 9, 10], [0, 8, 9, 10, 49], [4, 5, 6], [0, 8, 9, 10, 53], [4, 5, 6], [0, 8, 9, 10], [4, 5, 6]] = some lf49 := by kernel_rfl

/-- squint/squintref07.bits -/
def lf50 : LFunc := ⟨9, [.tmp 2],
  .seq (.region [⟨some 2, .op (.mov (.c (.int .i64 0))), none⟩] [0])
  (.seq (.seq (.region [⟨some 3, .op (.mov (.t 0)), none⟩,
        ⟨some 4, .op (.bin .geq .basic (.t 3) (.c (.int .u8 128))), none⟩] [0, 4])
    (.cond (.t 4)
      (.seq (.region [⟨some 2, .op (.mov (.c (.int .i64 7))), none⟩] [2])
      (.ret))
      (.skip)))
  (.seq (.seq (.region [⟨some 5, .op (.mov (.t 0)), none⟩,
        ⟨some 6, .op (.bin .geq .basic (.t 5) (.c (.int .u8 64))), none⟩] [0, 6])
    (.cond (.t 6)
      (.seq (.region [⟨some 2, .op (.mov (.c (.int .i64 6))), none⟩] [2])
      (.ret))
      (.skip)))
  (.seq (.seq (.region [⟨some 7, .op (.mov (.t 0)), none⟩,
        ⟨some 8, .op (.bin .geq .basic (.t 7) (.c (.int .u8 32))), none⟩] [8])
    (.cond (.t 8)
      (.seq (.region [⟨some 2, .op (.mov (.c (.int .i64 5))), none⟩] [2])
      (.ret))
      (.skip)))
  (.seq (.region [⟨some 2, .op (.mov (.c (.int .i64 4))), none⟩] [2])
  (.ret)))))⟩

theorem lf50_ok : cFunc Try.prog Try.f50 [[0], [0, 4], [2], [0, 6], [2], [8], [2], [2]] = some lf50 := by kernel_rfl

/-- squint/squintref06.Resize -/
def lf51 : LFunc := ⟨20, [.tmp 4],
  .seq (.region [⟨some 4, .op (.mov (.c (.slice none 0 0))), none⟩] [0, 1])
  (.seq (.block 0 (.loop (.seq (.seq (.region [⟨some 5, .op (.mov (.t 0)), none⟩,
              ⟨some 6, .op (.lenS (.t 5)), none⟩,
              ⟨some 7, .op (.bin .gtr .basic (.t 6) (.c (.int .i64 0))), none⟩,
              ⟨some 8, .op (.mov (.t 7)), none⟩,
              ⟨some 9, .op (.mov (.t 0)), some (8, true)⟩,
              ⟨some 10, .call (.c (.func (.func 76) #[] #[])) [.t 9], some (8, true)⟩,
              ⟨some 11, .op (.mov (.t 1)), some (8, true)⟩,
              ⟨some 12, .op (.bin .gtr .basic (.t 10) (.t 11)), some (8, true)⟩,
              ⟨some 13, .pick (.t 8) (.t 12) (.c (.bool false)), none⟩] [0, 1, 13])
          (.cond (.t 13)
            (.skip)
            (.exit 0)))
        (.block 1 (.region [⟨some 14, .op (.mov (.t 0)), none⟩,
            ⟨some 15, .op (.mov (.t 0)), none⟩,
            ⟨some 16, .op (.lenS (.t 15)), none⟩,
            ⟨some 17, .op (.bin .sub .basic (.t 16) (.c (.int .i64 1))), none⟩,
            ⟨some 18, .op (.slice 2 (.t 14) none (some (.t 17)) none), none⟩,
            ⟨some 0, .op (.mov (.t 18)), none⟩] [0, 1])))))
  (.seq (.region [⟨some 19, .op (.mov (.t 0)), none⟩,
      ⟨some 4, .op (.mov (.t 19)), none⟩] [4])
  (.ret)))⟩

theorem lf51_ok : cFunc Try.prog Try.f51 [[0, 1], [0, 1, 13], [0, 1], [4]] = some lf51 := by kernel_rfl

/-- squint/squintref07.entry -/
def lf52 : LFunc := ⟨31, [.cellN 4 2, .tmp 5],
  .seq (.region [⟨some 2, .op (.box (.t 0)), none⟩,
      ⟨some 4, .op (.alloc [.string ⟨#[]⟩, .string ⟨#[]⟩]), none⟩,
      ⟨some 5, .op (.mov (.c (.int .i64 0))), none⟩] [1, 2, 4])
  (.seq (.seq (.region [⟨some 6, .op (.mov (.t 1)), none⟩,
        ⟨some 7, .op (.bin .geq .basic (.t 6) (.c (.int .i64 1))), none⟩,
        ⟨some 8, .op (.mov (.t 7)), none⟩,
        ⟨some 9, .op (.mov (.t 1)), some (8, true)⟩,
        ⟨some 10, .op (.bin .leq .basic (.t 9) (.c (.int .i64 61))), some (8, true)⟩,
        ⟨some 11, .pick (.t 8) (.t 10) (.c (.bool false)), none⟩] [1, 2, 4, 11])
    (.cond (.t 11)
      (.seq (.region [⟨some 12, .op (.mov (.t 1)), none⟩,
          ⟨some 13, .call (.c (.func (.func 16) #[] #[])) [.t 12], none⟩,
          ⟨none, .op (.store 2 (.t 4) (.t 13)), none⟩,
          ⟨some 5, .op (.mov (.c (.int .i64 1))), none⟩] [4, 5])
      (.ret))
      (.skip)))
  (.seq (.seq (.region [⟨some 14, .op (.mov (.t 1)), none⟩,
        ⟨some 15, .op (.bin .gtr .basic (.t 14) (.c (.int .i64 61))), none⟩,
        ⟨some 16, .op (.mov (.t 15)), none⟩,
        ⟨some 17, .op (.mov (.t 1)), some (16, true)⟩,
        ⟨some 18, .op (.bin .sub .basic (.t 17) (.c (.int .i64 61))), some (16, true)⟩,
        ⟨some 19, .op (.fieldAddr 0 (.t 2)), some (16, true)⟩,
        ⟨some 20, .op (.load1 (.t 19)), some (16, true)⟩,
        ⟨some 21, .op (.lenS (.t 20)), some (16, true)⟩,
        ⟨some 22, .op (.bin .leq .basic (.t 18) (.t 21)), some (16, true)⟩,
        ⟨some 23, .pick (.t 16) (.t 22) (.c (.bool false)), none⟩] [1, 2, 4, 23])
    (.cond (.t 23)
      (.seq (.region [⟨some 24, .op (.fieldAddr 0 (.t 2)), none⟩,
          ⟨some 25, .op (.load1 (.t 24)), none⟩,
          ⟨some 26, .op (.mov (.t 1)), none⟩,
          ⟨some 27, .op (.bin .sub .basic (.t 26) (.c (.int .i64 62))), none⟩,
          ⟨some 28, .op (.idxAddrS 2 (.t 25) (.t 27)), none⟩,
          ⟨some 29, .op (.loadN 2 (.t 28)), none⟩,
          ⟨none, .op (.store 2 (.t 4) (.t 29)), none⟩,
          ⟨some 5, .op (.mov (.c (.int .i64 1))), none⟩] [4, 5])
      (.ret))
      (.skip)))
  (.seq (.region [⟨some 30, .op (.build [.string ⟨#[]⟩, .string ⟨#[]⟩] []), none⟩,
      ⟨none, .op (.store 2 (.t 4) (.t 30)), none⟩,
      ⟨some 5, .op (.mov (.c (.int .i64 0))), none⟩] [4, 5])
  (.ret))))⟩

theorem lf52_ok : cFunc Try.prog Try.f52 [[1, 2, 4], [1, 2, 4, 11], [4, 5], [1, 2, 4, 23], [4, 5], [4, 5]] = some lf52 := by kernel_rfl

/-- squint/squintref04.Decode -/
def lf53 : LFunc := ⟨52, [.tmp 4, .tmp 5, .tmp 6],
  .seq (.region [⟨some 4, .op (.mov (.c (.string ⟨#[]⟩))), none⟩,
      ⟨some 5, .op (.mov (.c (.int .i64 0))), none⟩,
      ⟨some 6, .op (.mov (.c (.int .i64 0))), none⟩] [0, 1])
  (.seq (.region [⟨some 12, .op (.mov (.t 0)), none⟩,
      ⟨some 13, .call (.c (.func (.func 49) #[] #[])) [.t 12, .c (.int .i64 7)], none⟩,
      ⟨some 11, .op (.mov (.t 13)), none⟩,
      ⟨some 14, .op (.extract 0 (.t 11)), none⟩,
      ⟨some 15, .op (.extract 1 (.t 11)), none⟩,
      ⟨some 16, .op (.extract 2 (.t 11)), none⟩,
      ⟨some 7, .op (.mov (.t 14)), none⟩,
      ⟨some 8, .op (.mov (.t 15)), none⟩,
      ⟨some 9, .op (.mov (.t 16)), none⟩] [0, 1, 7, 8, 9])
  (.seq (.seq (.region [⟨some 17, .op (.mov (.t 9)), none⟩,
        ⟨some 18, .op (.bin .neq .basic (.t 17) (.c (.int .i64 0))), none⟩] [0, 1, 7, 8, 9, 18])
    (.cond (.t 18)
      (.seq (.region [⟨some 19, .op (.mov (.t 9)), none⟩,
          ⟨some 4, .op (.mov (.c (.string ⟨#[]⟩))), none⟩,
          ⟨some 5, .op (.mov (.c (.int .i64 0))), none⟩,
          ⟨some 6, .op (.mov (.t 19)), none⟩] [4, 5, 6])
      (.ret))
      (.skip)))
  (.seq (.seq (.region [⟨some 20, .op (.mov (.t 8)), none⟩,
        ⟨some 21, .op (.mov (.t 7)), none⟩,
        ⟨some 22, .op (.bin .add .basic (.t 20) (.t 21)), none⟩,
        ⟨some 23, .op (.mov (.t 0)), none⟩,
        ⟨some 24, .op (.lenStr (.t 23)), none⟩,
        ⟨some 25, .op (.bin .gtr .basic (.t 22) (.t 24)), none⟩] [0, 1, 7, 8, 25])
    (.cond (.t 25)
      (.seq (.region [⟨some 4, .op (.mov (.c (.string ⟨#[]⟩))), none⟩,
          ⟨some 5, .op (.mov (.c (.int .i64 0))), none⟩,
          ⟨some 6, .op (.mov (.c (.int .i64 16))), none⟩] [4, 5, 6])
      (.ret))
      (.skip)))
  (.seq (.region [⟨some 26, .op (.mov (.t 0)), none⟩,
      ⟨some 27, .op (.mov (.t 8)), none⟩,
      ⟨some 28, .op (.mov (.t 8)), none⟩,
      ⟨some 29, .op (.mov (.t 7)), none⟩,
      ⟨some 30, .op (.bin .add .basic (.t 28) (.t 29)), none⟩,
      ⟨some 31, .op (.sliceStr (.t 26) (some (.t 27)) (some (.t 30))), none⟩,
      ⟨some 10, .op (.mov (.t 31)), none⟩] [0, 1, 7, 8, 10])
  (.seq (.seq (.region [⟨some 32, .op (.mov (.t 0)), none⟩,
        ⟨some 33, .op (.idxStr (.t 32) (.c (.int .i64 0))), none⟩,
        ⟨some 34, .op (.bin .geq .basic (.t 33) (.c (.int .u8 128))), none⟩] [1, 7, 8, 10, 34])
    (.cond (.t 34)
      (.seq (.region [⟨some 36, .op (.mov (.t 10)), none⟩,
          ⟨some 37, .call (.c (.func (.func 78) #[] #[])) [.t 36], none⟩,
          ⟨some 38, .call (.c (.func (.func 77) #[] #[])) [.t 37], none⟩,
          ⟨some 35, .op (.mov (.t 38)), none⟩,
          ⟨some 39, .op (.extract 0 (.t 35)), none⟩,
          ⟨some 40, .op (.extract 1 (.t 35)), none⟩,
          ⟨some 10, .op (.mov (.t 39)), none⟩,
          ⟨some 9, .op (.mov (.t 40)), none⟩] [1, 7, 8, 9, 10])
      (.seq (.region [⟨some 41, .op (.mov (.t 9)), none⟩,
          ⟨some 42, .op (.bin .neq .basic (.t 41) (.c (.int .i64 0))), none⟩] [1, 7, 8, 9, 10, 42])
      (.cond (.t 42)
        (.seq (.region [⟨some 43, .op (.mov (.t 9)), none⟩,
            ⟨some 4, .op (.mov (.c (.string ⟨#[]⟩))), none⟩,
            ⟨some 5, .op (.mov (.c (.int .i64 0))), none⟩,
            ⟨some 6, .op (.mov (.t 43)), none⟩] [4, 5, 6])
        (.ret))
        (.skip))))
      (.skip)))
  (.seq (.seq (.region [⟨some 44, .op (.mov (.t 10)), none⟩,
        ⟨some 45, .op (.lenStr (.t 44)), none⟩,
        ⟨some 46, .op (.mov (.t 1)), none⟩,
        ⟨some 47, .op (.bin .gtr .basic (.t 45) (.t 46)), none⟩] [7, 8, 10, 47])
    (.cond (.t 47)
      (.seq (.region [⟨some 4, .op (.mov (.c (.string ⟨#[]⟩))), none⟩,
          ⟨some 5, .op (.mov (.c (.int .i64 0))), none⟩,
          ⟨some 6, .op (.mov (.c (.int .i64 22))), none⟩] [4, 5, 6])
      (.ret))
      (.skip)))
  (.seq (.region [⟨some 48, .op (.mov (.t 10)), none⟩,
      ⟨some 49, .op (.mov (.t 8)), none⟩,
      ⟨some 50, .op (.mov (.t 7)), none⟩,
      ⟨some 51, .op (.bin .add .basic (.t 49) (.t 50)), none⟩,
      ⟨some 4, .op (.mov (.t 48)), none⟩,
      ⟨some 5, .op (.mov (.t 51)), none⟩,
      ⟨some 6, .op (.mov (.c (.int .i64 0))), none⟩] [4, 5, 6])
  (.ret))))))))⟩

theorem lf53_ok : cFunc Try.prog Try.f53 [[0, 1], [0, 1, 7, 8, 9], [0, 1, 7, 8, 9, 18], [4, 5, 6], [0, 1, 7, 8, 25], [4, 5, 6], [0, 1, 7, 8, 10], [1, 7, 8, 10, 34], [1, 7, 8, 9, 10], [1, 7, 8, 9, 10, 42], [4, 5, 6], [7, 8, 10, 47], [4, 5, 6], [4, 5, 6]] = some lf53 := by kernel_rfl

/-- squint/squintref06.Add -/
def lf54 : LFunc := ⟨51, [.tmp 6],
  .seq (.region [⟨some 5, .op (.box (.t 2)), none⟩,
      ⟨some 6, .op (.mov (.c (.slice none 0 0))), none⟩] [0, 1, 5])
  (.seq (.region [⟨some 10, .op (.loadN 2 (.t 5)), none⟩,
      ⟨some 11, .op (.buildSlice 1 2 [.string ⟨#[]⟩, .string ⟨#[]⟩] [(0, 2, .t 10)]), none⟩,
      ⟨some 7, .op (.mov (.t 11)), none⟩] [0, 1, 5, 7])
  (.seq (.block 0 (.loop (.seq (.seq (.region [⟨some 12, .op (.mov (.t 0)), none⟩,
              ⟨some 13, .op (.lenS (.t 12)), none⟩,
              ⟨some 14, .op (.bin .gtr .basic (.t 13) (.c (.int .i64 0))), none⟩,
              ⟨some 15, .op (.mov (.t 14)), none⟩,
              ⟨some 16, .op (.mov (.t 0)), some (15, true)⟩,
              ⟨some 17, .call (.c (.func (.func 76) #[] #[])) [.t 16], some (15, true)⟩,
              ⟨some 18, .op (.mov (.t 7)), some (15, true)⟩,
              ⟨some 19, .call (.c (.func (.func 76) #[] #[])) [.t 18], some (15, true)⟩,
              ⟨some 20, .op (.bin .add .basic (.t 17) (.t 19)), some (15, true)⟩,
              ⟨some 21, .op (.mov (.t 1)), some (15, true)⟩,
              ⟨some 22, .op (.bin .gtr .basic (.t 20) (.t 21)), some (15, true)⟩,
              ⟨some 23, .pick (.t 15) (.t 22) (.c (.bool false)), none⟩] [0, 1, 5, 7, 23])
          (.cond (.t 23)
            (.skip)
            (.exit 0)))
        (.block 1 (.region [⟨some 24, .op (.mov (.t 0)), none⟩,
            ⟨some 25, .op (.mov (.t 0)), none⟩,
            ⟨some 26, .op (.lenS (.t 25)), none⟩,
            ⟨some 27, .op (.bin .sub .basic (.t 26) (.c (.int .i64 1))), none⟩,
            ⟨some 28, .op (.slice 2 (.t 24) none (some (.t 27)) none), none⟩,
            ⟨some 0, .op (.mov (.t 28)), none⟩] [0, 1, 5, 7])))))
  (.seq (.seq (.region [⟨some 29, .op (.mov (.t 7)), none⟩,
        ⟨some 30, .call (.c (.func (.func 76) #[] #[])) [.t 29], none⟩,
        ⟨some 31, .op (.mov (.t 1)), none⟩,
        ⟨some 32, .op (.bin .gtr .basic (.t 30) (.t 31)), none⟩] [0, 5, 32])
    (.cond (.t 32)
      (.seq (.region [⟨some 6, .op (.mov (.c (.slice none 0 0))), none⟩] [6])
      (.ret))
      (.skip)))
  (.seq (.region [⟨some 8, .op (.mov (.c (.slice none 0 0))), none⟩] [0, 5, 8])
  (.seq (.region [⟨some 33, .op (.mov (.t 8)), none⟩,
      ⟨some 34, .op (.loadN 2 (.t 5)), none⟩,
      ⟨some 35, .op (.buildSlice 1 2 [.string ⟨#[]⟩, .string ⟨#[]⟩] [(0, 2, .t 34)]), none⟩,
      ⟨some 36, .op (.append 2 32 (.t 33) (.t 35)), none⟩,
      ⟨some 8, .op (.mov (.t 36)), none⟩] [0, 8])
  (.seq (.seq (.region [⟨some 9, .op (.mov (.c (.int .i64 0))), none⟩] [0, 8, 9])
    (.block 2 (.loop (.seq (.seq (.region [⟨some 37, .op (.mov (.t 9)), none⟩,
              ⟨some 38, .op (.mov (.t 0)), none⟩,
              ⟨some 39, .op (.lenS (.t 38)), none⟩,
              ⟨some 40, .op (.bin .lss .basic (.t 37) (.t 39)), none⟩] [0, 8, 9, 40])
          (.cond (.t 40)
            (.skip)
            (.exit 2)))
        (.seq (.block 3 (.region [⟨some 43, .op (.mov (.t 8)), none⟩,
              ⟨some 44, .op (.mov (.t 0)), none⟩,
              ⟨some 45, .op (.mov (.t 9)), none⟩,
              ⟨some 46, .op (.idxAddrS 2 (.t 44) (.t 45)), none⟩,
              ⟨some 47, .op (.loadN 2 (.t 46)), none⟩,
              ⟨some 48, .op (.buildSlice 1 2 [.string ⟨#[]⟩, .string ⟨#[]⟩] [(0, 2, .t 47)]), none⟩,
              ⟨some 49, .op (.append 2 32 (.t 43) (.t 48)), none⟩,
              ⟨some 8, .op (.mov (.t 49)), none⟩] [0, 8, 9]))
        (.region [⟨some 41, .op (.mov (.t 9)), none⟩,
          ⟨some 42, .op (.bin .add .basic (.t 41) (.c (.int .i64 1))), none⟩,
          ⟨some 9, .op (.mov (.t 42)), none⟩] [0, 8, 9]))))))
  (.seq (.region [⟨some 50, .op (.mov (.t 8)), none⟩,
      ⟨some 6, .op (.mov (.t 50)), none⟩] [6])
  (.ret))))))))⟩

theorem lf54_ok : cFunc Try.prog Try.f54 [[0, 1, 5], [0, 1, 5, 7], [0, 1, 5, 7, 23], [0, 1, 5, 7], [0, 5, 32], [6], [0, 5, 8], [0, 8], [0, 8, 9], [0, 8, 9, 40], [0, 8, 9], [0, 8, 9], [6]] = some lf54 := by kernel_rfl

/-- squint/squintref05.Find -/
def lf60 : LFunc := ⟨37, [.tmp 4, .tmp 5],
  .seq (.region [⟨some 4, .op (.mov (.c (.int .i64 0))), none⟩,
      ⟨some 5, .op (.mov (.c (.int .i64 0))), none⟩] [0, 1])
  (.seq (.region [⟨some 6, .op (.mov (.c (.int .i64 0))), none⟩] [0, 1, 6])
  (.seq (.seq (.region [⟨some 7, .op (.mov (.c (.int .i64 61))), none⟩] [0, 1, 6, 7])
    (.block 0 (.loop (.seq (.seq (.region [⟨some 9, .op (.mov (.t 7)), none⟩,
              ⟨some 10, .op (.bin .geq .basic (.t 9) (.c (.int .i64 1))), none⟩] [0, 1, 6, 7, 10])
          (.cond (.t 10)
            (.skip)
            (.exit 0)))
        (.seq (.block 1 (.seq (.region [⟨some 13, .op (.mov (.t 7)), none⟩,
                ⟨some 14, .call (.c (.func (.func 16) #[] #[])) [.t 13], none⟩,
                ⟨some 15, .op (.idxA1 2 (.t 14) (.c (.int .i64 0))), none⟩,
                ⟨some 16, .op (.mov (.t 0)), none⟩,
                ⟨some 17, .op (.bin .eql .basic (.t 15) (.t 16)), none⟩] [0, 1, 6, 7, 17])
            (.cond (.t 17)
              (.region [⟨some 18, .op (.mov (.t 7)), none⟩,
                ⟨some 6, .op (.mov (.t 18)), none⟩] [0, 1, 6, 7])
              (.skip))))
        (.region [⟨some 11, .op (.mov (.t 7)), none⟩,
          ⟨some 12, .op (.bin .sub .basic (.t 11) (.c (.int .i64 1))), none⟩,
          ⟨some 7, .op (.mov (.t 12)), none⟩] [0, 1, 6, 7]))))))
  (.seq (.seq (.region [⟨some 8, .op (.mov (.c (.int .i64 1))), none⟩] [0, 1, 6, 8])
    (.block 2 (.loop (.seq (.seq (.region [⟨some 19, .op (.mov (.t 8)), none⟩,
              ⟨some 20, .op (.bin .leq .basic (.t 19) (.c (.int .i64 61))), none⟩] [0, 1, 6, 8, 20])
          (.cond (.t 20)
            (.skip)
            (.exit 2)))
        (.seq (.block 3 (.seq (.region [⟨some 23, .op (.mov (.t 8)), none⟩,
                ⟨some 24, .call (.c (.func (.func 16) #[] #[])) [.t 23], none⟩,
                ⟨some 25, .op (.idxA1 2 (.t 24) (.c (.int .i64 0))), none⟩,
                ⟨some 26, .op (.mov (.t 0)), none⟩,
                ⟨some 27, .op (.bin .eql .basic (.t 25) (.t 26)), none⟩,
                ⟨some 28, .op (.mov (.t 27)), none⟩,
                ⟨some 29, .op (.mov (.t 8)), some (28, true)⟩,
                ⟨some 30, .call (.c (.func (.func 16) #[] #[])) [.t 29], some (28, true)⟩,
                ⟨some 31, .op (.idxA1 2 (.t 30) (.c (.int .i64 1))), some (28, true)⟩,
                ⟨some 32, .op (.mov (.t 1)), some (28, true)⟩,
                ⟨some 33, .op (.bin .eql .basic (.t 31) (.t 32)), some (28, true)⟩,
                ⟨some 34, .pick (.t 28) (.t 33) (.c (.bool false)), none⟩] [0, 1, 6, 8, 34])
            (.cond (.t 34)
              (.seq (.region [⟨some 35, .op (.mov (.t 8)), none⟩,
                  ⟨some 4, .op (.mov (.t 35)), none⟩,
                  ⟨some 5, .op (.mov (.c (.int .i64 1))), none⟩] [4, 5])
              (.ret))
              (.skip))))
        (.region [⟨some 21, .op (.mov (.t 8)), none⟩,
          ⟨some 22, .op (.bin .add .basic (.t 21) (.c (.int .i64 1))), none⟩,
          ⟨some 8, .op (.mov (.t 22)), none⟩] [0, 1, 6, 8]))))))
  (.seq (.region [⟨some 36, .op (.mov (.t 6)), none⟩,
      ⟨some 4, .op (.mov (.t 36)), none⟩,
      ⟨some 5, .op (.mov (.c (.int .i64 0))), none⟩] [4, 5])
  (.ret)))))⟩

theorem lf60_ok : cFunc Try.prog Try.f60 [[0, 1], [0, 1, 6], [0, 1, 6, 7], [0, 1, 6, 7, 10], [0, 1, 6, 7, 17], [0, 1, 6, 7], [0, 1, 6, 7], [0, 1, 6, 8], [0, 1, 6, 8, 20], [0, 1, 6, 8, 34], [4, 5], [0, 1, 6, 8], [4, 5]] = some lf60 := by kernel_rfl

/-- squint/squintref03.Encode -/
def lf61 : LFunc := ⟨53, [.tmp 6],
  .seq (.region [⟨some 6, .op (.mov (.c (.string ⟨#[]⟩))), none⟩] [0, 1, 2])
  (.seq (.region [⟨some 10, .op (.mov (.t 1)), none⟩,
      ⟨some 11, .call (.c (.func (.func 75) #[] #[])) [.t 10], none⟩,
      ⟨some 12, .op (.bin .sub .basic (.t 11) (.c (.int .i64 1))), none⟩,
      ⟨some 7, .op (.mov (.t 12)), none⟩] [0, 1, 2, 7])
  (.seq (.seq (.region [⟨some 13, .op (.mov (.t 0)), none⟩,
        ⟨some 14, .op (.mov (.t 7)), none⟩,
        ⟨some 15, .op (.bin .lss .basic (.t 13) (.t 14)), none⟩] [0, 1, 2, 7, 15])
    (.cond (.t 15)
      (.seq (.region [⟨some 16, .op (.mov (.t 2)), none⟩,
          ⟨some 17, .op (.mov (.t 1)), none⟩,
          ⟨some 18, .call (.c (.func (.func 75) #[] #[])) [.t 17], none⟩,
          ⟨some 19, .op (.bin .mul .basic (.t 16) (.t 18)), none⟩,
          ⟨some 20, .op (.mov (.t 0)), none⟩,
          ⟨some 21, .op (.bin .add .basic (.t 19) (.t 20)), none⟩,
          ⟨some 22, .op (.convInt .u8 (.t 21)), none⟩,
          ⟨some 23, .op (.buildSlice 1 1 [.int .u8 0] [(0, 1, .t 22)]), none⟩,
          ⟨some 24, .op (.bytesStr (.t 23)), none⟩,
          ⟨some 6, .op (.mov (.t 24)), none⟩] [6])
      (.ret))
      (.skip)))
  (.seq (.region [⟨some 25, .op (.mov (.t 2)), none⟩,
      ⟨some 26, .op (.mov (.t 1)), none⟩,
      ⟨some 27, .call (.c (.func (.func 75) #[] #[])) [.t 26], none⟩,
      ⟨some 28, .op (.bin .mul .basic (.t 25) (.t 27)), none⟩,
      ⟨some 29, .op (.mov (.t 7)), none⟩,
      ⟨some 30, .op (.bin .add .basic (.t 28) (.t 29)), none⟩,
      ⟨some 31, .op (.convInt .u8 (.t 30)), none⟩,
      ⟨some 32, .op (.buildSlice 1 1 [.int .u8 0] [(0, 1, .t 31)]), none⟩,
      ⟨some 8, .op (.mov (.t 32)), none⟩] [0, 7, 8])
  (.seq (.region [⟨some 33, .op (.mov (.t 0)), none⟩,
      ⟨some 34, .op (.mov (.t 7)), none⟩,
      ⟨some 35, .op (.bin .sub .basic (.t 33) (.t 34)), none⟩,
      ⟨some 9, .op (.mov (.t 35)), none⟩] [8, 9])
  (.seq (.block 0 (.loop (.seq (.seq (.region [⟨some 36, .op (.mov (.t 9)), none⟩,
              ⟨some 37, .op (.bin .geq .basic (.t 36) (.c (.int .i64 128))), none⟩] [8, 9, 37])
          (.cond (.t 37)
            (.skip)
            (.exit 0)))
        (.block 1 (.seq (.region [⟨some 38, .op (.mov (.t 8)), none⟩,
              ⟨some 39, .op (.mov (.t 9)), none⟩,
              ⟨some 40, .op (.bin .rem .basic (.t 39) (.c (.int .i64 128))), none⟩,
              ⟨some 41, .op (.bin .add .basic (.c (.int .i64 128)) (.t 40)), none⟩,
              ⟨some 42, .op (.convInt .u8 (.t 41)), none⟩,
              ⟨some 43, .op (.buildSlice 1 1 [.int .u8 0] [(0, 1, .t 42)]), none⟩,
              ⟨some 44, .op (.append 1 1 (.t 38) (.t 43)), none⟩,
              ⟨some 8, .op (.mov (.t 44)), none⟩] [8, 9])
          (.region [⟨some 45, .op (.mov (.t 9)), none⟩,
            ⟨some 46, .op (.bin .quo .basic (.t 45) (.c (.int .i64 128))), none⟩,
            ⟨some 9, .op (.mov (.t 46)), none⟩] [8, 9]))))))
  (.seq (.region [⟨some 47, .op (.mov (.t 8)), none⟩,
      ⟨some 48, .op (.mov (.t 9)), none⟩,
      ⟨some 49, .op (.convInt .u8 (.t 48)), none⟩,
      ⟨some 50, .op (.buildSlice 1 1 [.int .u8 0] [(0, 1, .t 49)]), none⟩,
      ⟨some 51, .op (.append 1 1 (.t 47) (.t 50)), none⟩,
      ⟨some 52, .op (.bytesStr (.t 51)), none⟩,
      ⟨some 6, .op (.mov (.t 52)), none⟩] [6])
  (.ret)))))))⟩

theorem lf61_ok : cFunc Try.prog Try.f61 [[0, 1, 2], [0, 1, 2, 7], [0, 1, 2, 7, 15], [6], [0, 7, 8], [8, 9], [8, 9, 37], [8, 9], [8, 9], [6]] = some lf61 := by kernel_rfl

/-- squint/squintref08.name -/
def lf62 : LFunc := ⟨14, [.tmp 2],
  .seq (.region [⟨some 2, .op (.mov (.c (.int .i64 0))), none⟩] [0])
  (.seq (.seq (.region [⟨some 3, .op (.mov (.c (.int .i64 1))), none⟩] [0, 3])
    (.block 0 (.loop (.seq (.seq (.region [⟨some 4, .op (.mov (.t 3)), none⟩,
              ⟨some 5, .op (.bin .leq .basic (.t 4) (.c (.int .i64 61))), none⟩] [0, 3, 5])
          (.cond (.t 5)
            (.skip)
            (.exit 0)))
        (.seq (.block 1 (.seq (.region [⟨some 8, .op (.mov (.t 3)), none⟩,
                ⟨some 9, .call (.c (.func (.func 16) #[] #[])) [.t 8], none⟩,
                ⟨some 10, .op (.idxA1 2 (.t 9) (.c (.int .i64 0))), none⟩,
                ⟨some 11, .op (.mov (.t 0)), none⟩,
                ⟨some 12, .op (.bin .eql .basic (.t 10) (.t 11)), none⟩] [0, 3, 12])
            (.cond (.t 12)
              (.seq (.region [⟨some 13, .op (.mov (.t 3)), none⟩,
                  ⟨some 2, .op (.mov (.t 13)), none⟩] [2])
              (.ret))
              (.skip))))
        (.region [⟨some 6, .op (.mov (.t 3)), none⟩,
          ⟨some 7, .op (.bin .add .basic (.t 6) (.c (.int .i64 1))), none⟩,
          ⟨some 3, .op (.mov (.t 7)), none⟩] [0, 3]))))))
  (.seq (.region [⟨some 2, .op (.mov (.c (.int .i64 0))), none⟩] [2])
  (.ret)))⟩

theorem lf62_ok : cFunc Try.prog Try.f62 [[0], [0, 3], [0, 3, 5], [0, 3, 12], [2], [0, 3], [2]] = some lf62 := by kernel_rfl

/-- squint/squintref08.short -/
def lf63 : LFunc := ⟨16, [.tmp 2],
  .seq (.region [⟨some 2, .op (.mov (.c (.string ⟨#[]⟩))), none⟩] [0])
  (.seq (.region [⟨some 5, .op (.mov (.t 0)), none⟩,
      ⟨some 6, .call (.c (.func (.func 84) #[] #[])) [.t 5, .c (.int .i64 0)], none⟩,
      ⟨some 3, .op (.mov (.t 6)), none⟩] [0, 3])
  (.seq (.region [⟨some 7, .op (.mov (.t 0)), none⟩,
      ⟨some 8, .call (.c (.func (.func 84) #[] #[])) [.t 7, .c (.int .i64 1)], none⟩,
      ⟨some 4, .op (.mov (.t 8)), none⟩] [3, 4])
  (.seq (.seq (.region [⟨some 9, .op (.mov (.t 4)), none⟩,
        ⟨some 10, .op (.lenStr (.t 9)), none⟩,
        ⟨some 11, .op (.mov (.t 3)), none⟩,
        ⟨some 12, .op (.lenStr (.t 11)), none⟩,
        ⟨some 13, .op (.bin .lss .basic (.t 10) (.t 12)), none⟩] [3, 4, 13])
    (.cond (.t 13)
      (.seq (.region [⟨some 14, .op (.mov (.t 4)), none⟩,
          ⟨some 2, .op (.mov (.t 14)), none⟩] [2])
      (.ret))
      (.skip)))
  (.seq (.region [⟨some 15, .op (.mov (.t 3)), none⟩,
      ⟨some 2, .op (.mov (.t 15)), none⟩] [2])
  (.ret)))))⟩

theorem lf63_ok : cFunc Try.prog Try.f63 [[0], [0, 3], [3, 4], [3, 4, 13], [2], [2]] = some lf63 := by kernel_rfl

/-- squint/squintref03.pow -/
def lf75 : LFunc := ⟨13, [.tmp 2],
  .seq (.region [⟨some 2, .op (.mov (.c (.int .i64 0))), none⟩] [0])
  (.seq (.region [⟨some 3, .op (.mov (.c (.int .i64 1))), none⟩] [0, 3])
  (.seq (.seq (.region [⟨some 4, .op (.mov (.c (.int .i64 0))), none⟩] [0, 3, 4])
    (.block 0 (.loop (.seq (.seq (.region [⟨some 5, .op (.mov (.t 4)), none⟩,
              ⟨some 6, .op (.mov (.t 0)), none⟩,
              ⟨some 7, .op (.bin .lss .basic (.t 5) (.t 6)), none⟩] [0, 3, 4, 7])
          (.cond (.t 7)
            (.skip)
            (.exit 0)))
        (.seq (.block 1 (.region [⟨some 10, .op (.mov (.t 3)), none⟩,
              ⟨some 11, .op (.bin .mul .basic (.t 10) (.c (.int .i64 2))), none⟩,
              ⟨some 3, .op (.mov (.t 11)), none⟩] [0, 3, 4]))
        (.region [⟨some 8, .op (.mov (.t 4)), none⟩,
          ⟨some 9, .op (.bin .add .basic (.t 8) (.c (.int .i64 1))), none⟩,
          ⟨some 4, .op (.mov (.t 9)), none⟩] [0, 3, 4]))))))
  (.seq (.region [⟨some 12, .op (.mov (.t 3)), none⟩,
      ⟨some 2, .op (.mov (.t 12)), none⟩] [2])
  (.ret))))⟩

theorem lf75_ok : cFunc Try.prog Try.f75 [[0], [0, 3], [0, 3, 4], [0, 3, 4, 7], [0, 3, 4], [0, 3, 4], [2]] = some lf75 := by kernel_rfl

/-- squint/squintref06.Size -/
def lf76 : LFunc := ⟨28, [.tmp 2],
  .seq (.region [⟨some 2, .op (.mov (.c (.int .i64 0))), none⟩] [0])
  (.seq (.region [⟨some 3, .op (.mov (.c (.int .i64 0))), none⟩] [0, 3])
  (.seq (.seq (.region [⟨some 4, .op (.mov (.c (.int .i64 0))), none⟩] [0, 3, 4])
    (.block 0 (.loop (.seq (.seq (.region [⟨some 5, .op (.mov (.t 4)), none⟩,
              ⟨some 6, .op (.mov (.t 0)), none⟩,
              ⟨some 7, .op (.lenS (.t 6)), none⟩,
              ⟨some 8, .op (.bin .lss .basic (.t 5) (.t 7)), none⟩] [0, 3, 4, 8])
          (.cond (.t 8)
            (.skip)
            (.exit 0)))
        (.seq (.block 1 (.dregion [(⟨some 11, .op (.mov (.t 3)), none⟩, 0, 0),
              (⟨some 12, .op (.mov (.t 0)), none⟩, 0, 0),
              (⟨some 13, .op (.mov (.t 4)), none⟩, 0, 0),
              (⟨some 14, .op (.idxAddrS 2 (.t 12) (.t 13)), none⟩, 0, 0),
              (⟨some 15, .op (.idxAddrA 2 1 (.t 14) (.c (.int .i64 0))), none⟩, 0, 0),
              (⟨some 16, .op (.load1 (.t 15)), none⟩, 0, 0),
              (⟨some 17, .op (.lenStr (.t 16)), none⟩, 0, 0),
              (⟨some 18, .op (.mov (.t 0)), none⟩, 0, 0),
              (⟨some 19, .op (.mov (.t 4)), none⟩, 0, 0),
              (⟨some 20, .op (.idxAddrS 2 (.t 18) (.t 19)), none⟩, 0, 0),
              (⟨some 21, .op (.idxAddrA 2 1 (.t 20) (.c (.int .i64 1))), none⟩, 0, 0),
              (⟨some 22, .op (.load1 (.t 21)), none⟩, 0, 0),
              (⟨some 23, .op (.lenStr (.t 22)), none⟩, 0, 0),
              (⟨some 24, .op (.bin .add .basic (.t 17) (.t 23)), none⟩, 0, 0),
              (⟨some 25, .op (.bin .add .basic (.t 24) (.c (.int .i64 32))), none⟩, 0, 0),
              (⟨some 26, .op (.bin .add .basic (.t 11) (.t 25)), none⟩, 0, 0),
              (⟨some 3, .op (.mov (.t 26)), none⟩, 0, 0)] [0, 3, 4]))
        (.region [⟨some 9, .op (.mov (.t 4)), none⟩,
          ⟨some 10, .op (.bin .add .basic (.t 9) (.c (.int .i64 1))), none⟩,
          ⟨some 4, .op (.mov (.t 10)), none⟩] [0, 3, 4]))))))
  (.seq (.region [⟨some 27, .op (.mov (.t 3)), none⟩,
      ⟨some 2, .op (.mov (.t 27)), none⟩] [2])
  (.ret))))⟩

theorem lf76_ok : cFunc Try.prog Try.f76 [[0], [0, 3], [0, 3, 4], [0, 3, 4, 8], [0, 3, 4], [0, 3, 4], [2]] = some lf76 := by kernel_rfl

/-- squint/squintref02.Decode -/
def lf77 : LFunc := ⟨80, [.tmp 2, .tmp 3],
  .seq (.region [⟨some 2, .op (.mov (.c (.string ⟨#[]⟩))), none⟩,
      ⟨some 3, .op (.mov (.c (.int .i64 0))), none⟩] [0])
  (.seq (.region [⟨some 11, .call (.c (.func (.func 92) #[] #[])) [], none⟩,
      ⟨some 4, .op (.alloc [.string ⟨#[]⟩, .string ⟨#[]⟩, .string ⟨#[]⟩, .string ⟨#[]⟩, .string ⟨#[]⟩, .string ⟨#[]⟩, .string ⟨#[]⟩, .string ⟨#[]⟩, .string ⟨#[]⟩, .string ⟨#[]⟩, .string ⟨#[]⟩, .string ⟨#[]⟩, .string ⟨#[]⟩, .string ⟨#[]⟩, .string ⟨#[]⟩, .string ⟨#[]⟩, .string ⟨#[]⟩, .string ⟨#[]⟩, .string ⟨#[]⟩, .string ⟨#[]⟩, .string ⟨#[]⟩, .string ⟨#[]⟩, .string ⟨#[]⟩, .string ⟨#[]⟩, .string ⟨#[]⟩, .string ⟨#[]⟩, .string ⟨#[]⟩, .string ⟨#[]⟩, .string ⟨#[]⟩, .string ⟨#[]⟩, .string ⟨#[]⟩, .string ⟨#[]⟩, .string ⟨#[]⟩, .string ⟨#[]⟩, .string ⟨#[]⟩, .string ⟨#[]⟩, .string ⟨#[]⟩, .string ⟨#[]⟩, .string ⟨#[]⟩, .string ⟨#[]⟩, .string ⟨#[]⟩, .string ⟨#[]⟩, .string ⟨#[]⟩, .string ⟨#[]⟩, .string ⟨#[]⟩, .string ⟨#[]⟩, .string ⟨#[]⟩, .string ⟨#[]⟩, .string ⟨#[]⟩, .string ⟨#[]⟩, .string ⟨#[]⟩, .string ⟨#[]⟩, .string ⟨#[]⟩, .string ⟨#[]⟩, .string ⟨#[]⟩, .string ⟨#[]⟩, .string ⟨#[]⟩, .string ⟨#[]⟩, .string ⟨#[]⟩, .string ⟨#[]⟩, .string ⟨#[]⟩, .string ⟨#[]⟩, .string ⟨#[]⟩, .string ⟨#[]⟩, .string ⟨#[]⟩, .string ⟨#[]⟩, .string ⟨#[]⟩, .string ⟨#[]⟩, .string ⟨#[]⟩, .string ⟨#[]⟩, .string ⟨#[]⟩, .string ⟨#[]⟩, .string ⟨#[]⟩, .string ⟨#[]⟩, .string ⟨#[]⟩, .string ⟨#[]⟩, .string ⟨#[]⟩, .string ⟨#[]⟩, .string ⟨#[]⟩, .string ⟨#[]⟩, .string ⟨#[]⟩, .string ⟨#[]⟩, .string ⟨#[]⟩, .string ⟨#[]⟩, .string ⟨#[]⟩, .string ⟨#[]⟩, .string ⟨#[]⟩, .string ⟨#[]⟩, .string ⟨#[]⟩, .string ⟨#[]⟩, .string ⟨#[]⟩, .string ⟨#[]⟩, .string ⟨#[]⟩, .string ⟨#[]⟩, .string ⟨#[]⟩, .string ⟨#[]⟩, .string ⟨#[]⟩, .string ⟨#[]⟩, .string ⟨#[]⟩, .string ⟨#[]⟩, .string ⟨#[]⟩, .string ⟨#[]⟩, .string ⟨#[]⟩, .string ⟨#[]⟩, .string ⟨#[]⟩, .string ⟨#[]⟩, .string ⟨#[]⟩, .string ⟨#[]⟩, .string ⟨#[]⟩, .string ⟨#[]⟩, .string ⟨#[]⟩, .string ⟨#[]⟩, .string ⟨#[]⟩, .string ⟨#[]⟩, .string ⟨#[]⟩, .string ⟨#[]⟩, .string ⟨#[]⟩, .string ⟨#[]⟩, .string ⟨#[]⟩, .string ⟨#[]⟩, .string ⟨#[]⟩, .string ⟨#[]⟩, .string ⟨#[]⟩, .string ⟨#[]⟩, .string ⟨#[]⟩, .string ⟨#[]⟩, .string ⟨#[]⟩, .string ⟨#[]⟩, .string ⟨#[]⟩, .string ⟨#[]⟩, .string ⟨#[]⟩, .string ⟨#[]⟩, .string ⟨#[]⟩, .string ⟨#[]⟩, .string ⟨#[]⟩, .string ⟨#[]⟩, .string ⟨#[]⟩, .string ⟨#[]⟩, .string ⟨#[]⟩, .string ⟨#[]⟩, .string ⟨#[]⟩, .string ⟨#[]⟩, .string ⟨#[]⟩, .string ⟨#[]⟩, .string ⟨#[]⟩, .string ⟨#[]⟩, .string ⟨#[]⟩, .string ⟨#[]⟩, .string ⟨#[]⟩, .string ⟨#[]⟩, .string ⟨#[]⟩, .string ⟨#[]⟩, .string ⟨#[]⟩, .string ⟨#[]⟩, .string ⟨#[]⟩, .string ⟨#[]⟩, .string ⟨#[]⟩, .string ⟨#[]⟩, .string ⟨#[]⟩, .string ⟨#[]⟩, .string ⟨#[]⟩, .string ⟨#[]⟩, .string ⟨#[]⟩, .string ⟨#[]⟩, .string ⟨#[]⟩, .string ⟨#[]⟩, .string ⟨#[]⟩, .string ⟨#[]⟩, .string ⟨#[]⟩, .string ⟨#[]⟩, .string ⟨#[]⟩, .string ⟨#[]⟩, .string ⟨#[]⟩, .string ⟨#[]⟩, .string ⟨#[]⟩, .string ⟨#[]⟩, .string ⟨#[]⟩, .string ⟨#[]⟩, .string ⟨#[]⟩, .string ⟨#[]⟩, .string ⟨#[]⟩, .string ⟨#[]⟩, .string ⟨#[]⟩, .string ⟨#[]⟩, .string ⟨#[]⟩, .string ⟨#[]⟩, .string ⟨#[]⟩, .string ⟨#[]⟩, .string ⟨#[]⟩, .string ⟨#[]⟩, .string ⟨#[]⟩, .string ⟨#[]⟩, .string ⟨#[]⟩, .string ⟨#[]⟩, .string ⟨#[]⟩, .string ⟨#[]⟩, .string ⟨#[]⟩, .string ⟨#[]⟩, .string ⟨#[]⟩, .string ⟨#[]⟩, .string ⟨#[]⟩, .string ⟨#[]⟩, .string ⟨#[]⟩, .string ⟨#[]⟩, .string ⟨#[]⟩, .string ⟨#[]⟩, .string ⟨#[]⟩, .string ⟨#[]⟩, .string ⟨#[]⟩, .string ⟨#[]⟩, .string ⟨#[]⟩, .string ⟨#[]⟩, .string ⟨#[]⟩, .string ⟨#[]⟩, .string ⟨#[]⟩, .string ⟨#[]⟩, .string ⟨#[]⟩, .string ⟨#[]⟩, .string ⟨#[]⟩, .string ⟨#[]⟩, .string ⟨#[]⟩, .string ⟨#[]⟩, .string ⟨#[]⟩, .string ⟨#[]⟩, .string ⟨#[]⟩, .string ⟨#[]⟩, .string ⟨#[]⟩, .string ⟨#[]⟩, .string ⟨#[]⟩, .string ⟨#[]⟩, .string ⟨#[]⟩, .string ⟨#[]⟩, .string ⟨#[]⟩, .string ⟨#[]⟩, .string ⟨#[]⟩, .string ⟨#[]⟩, .string ⟨#[]⟩, .string ⟨#[]⟩, .string ⟨#[]⟩, .string ⟨#[]⟩, .string ⟨#[]⟩, .string ⟨#[]⟩, .string ⟨#[]⟩, .string ⟨#[]⟩, .string ⟨#[]⟩, .string ⟨#[]⟩, .string ⟨#[]⟩, .string ⟨#[]⟩, .string ⟨#[]⟩, .string ⟨#[]⟩, .string ⟨#[]⟩, .string ⟨#[]⟩, .string ⟨#[]⟩, .string ⟨#[]⟩, .string ⟨#[]⟩, .string ⟨#[]⟩, .string ⟨#[]⟩]), none⟩,
      ⟨none, .op (.store 257 (.t 4) (.t 11)), none⟩] [0, 4])
  (.seq (.region [⟨some 5, .op (.mov (.c (.slice none 0 0))), none⟩] [0, 4, 5])
  (.seq (.region [⟨some 6, .op (.mov (.c (.int .i64 0))), none⟩] [0, 4, 5, 6])
  (.seq (.block 0 (.loop (.seq (.seq (.region [⟨some 12, .op (.mov (.t 6)), none⟩,
              ⟨some 13, .op (.mov (.t 0)), none⟩,
              ⟨some 14, .op (.lenStr (.t 13)), none⟩,
              ⟨some 15, .op (.bin .lss .basic (.t 12) (.t 14)), none⟩] [0, 4, 5, 6, 15])
          (.cond (.t 15)
            (.skip)
            (.exit 0)))
        (.block 1 (.seq (.region [⟨some 7, .op (.mov (.c (.int .i64 (-1)))), none⟩] [0, 4, 5, 6, 7])
          (.seq (.seq (.region [⟨some 8, .op (.mov (.c (.int .i64 0))), none⟩] [0, 4, 5, 6, 7, 8])
            (.block 2 (.loop (.seq (.seq (.region [⟨some 16, .op (.mov (.t 8)), none⟩,
                      ⟨some 17, .op (.bin .lss .basic (.t 16) (.c (.int .i64 257))), none⟩] [0, 4, 5, 6, 7, 8, 17])
                  (.cond (.t 17)
                    (.skip)
                    (.exit 2)))
                (.seq (.block 3 (.seq (.region [⟨some 20, .op (.mov (.t 8)), none⟩,
                        ⟨some 21, .op (.idxAddrA 257 1 (.t 4) (.t 20)), none⟩,
                        ⟨some 22, .op (.load1 (.t 21)), none⟩,
                        ⟨some 23, .op (.lenStr (.t 22)), none⟩,
                        ⟨some 9, .op (.mov (.t 23)), none⟩] [0, 4, 5, 6, 7, 8, 9])
                    (.seq (.dregion [(⟨some 24, .op (.mov (.t 6)), none⟩, 0, 0),
                        (⟨some 25, .op (.mov (.t 9)), none⟩, 0, 0),
                        (⟨some 26, .op (.bin .add .basic (.t 24) (.t 25)), none⟩, 0, 0),
                        (⟨some 27, .op (.mov (.t 0)), none⟩, 0, 0),
                        (⟨some 28, .op (.lenStr (.t 27)), none⟩, 0, 0),
                        (⟨some 29, .op (.bin .leq .basic (.t 26) (.t 28)), none⟩, 0, 0),
                        (⟨some 30, .op (.mov (.t 29)), none⟩, 0, 0),
                        (⟨some 31, .op (.mov (.t 0)), some (30, true)⟩, 0, 0),
                        (⟨some 32, .op (.mov (.t 6)), some (30, true)⟩, 0, 0),
                        (⟨some 33, .op (.mov (.t 6)), some (30, true)⟩, 0, 0),
                        (⟨some 34, .op (.mov (.t 9)), some (30, true)⟩, 0, 0),
                        (⟨some 35, .op (.bin .add .basic (.t 33) (.t 34)), some (30, true)⟩, 0, 0),
                        (⟨some 36, .op (.sliceStr (.t 31) (some (.t 32)) (some (.t 35))), some (30, true)⟩, 0, 0),
                        (⟨some 37, .op (.mov (.t 8)), some (30, true)⟩, 0, 0),
                        (⟨some 38, .op (.idxAddrA 257 1 (.t 4) (.t 37)), some (30, true)⟩, 0, 0),
                        (⟨some 39, .op (.load1 (.t 38)), some (30, true)⟩, 0, 0),
                        (⟨some 40, .op (.bin .eql .basic (.t 36) (.t 39)), some (30, true)⟩, 0, 0),
                        (⟨some 41, .pick (.t 30) (.t 40) (.c (.bool false)), none⟩, 0, 0)] [0, 4, 5, 6, 7, 8, 41])
                    (.cond (.t 41)
                      (.region [⟨some 42, .op (.mov (.t 8)), none⟩,
                        ⟨some 7, .op (.mov (.t 42)), none⟩] [0, 4, 5, 6, 7, 8])
                      (.skip)))))
                (.region [⟨some 18, .op (.mov (.t 8)), none⟩,
                  ⟨some 19, .op (.bin .add .basic (.t 18) (.c (.int .i64 1))), none⟩,
                  ⟨some 8, .op (.mov (.t 19)), none⟩] [0, 4, 5, 6, 7, 8]))))))
          (.seq (.seq (.region [⟨some 43, .op (.mov (.t 7)), none⟩,
                ⟨some 44, .op (.bin .eql .basic (.t 43) (.c (.int .i64 256))), none⟩] [0, 4, 5, 6, 7, 44])
            (.cond (.t 44)
              (.seq (.region [⟨some 2, .op (.mov (.c (.string ⟨#[]⟩))), none⟩,
                  ⟨some 3, .op (.mov (.c (.int .i64 21))), none⟩] [2, 3])
              (.ret))
              (.skip)))
          (.seq (.seq (.region [⟨some 45, .op (.mov (.t 7)), none⟩,
                ⟨some 46, .op (.bin .lss .basic (.t 45) (.c (.int .i64 0))), none⟩] [0, 4, 5, 6, 7, 46])
            (.cond (.t 46)
              (.seq (.seq (.region [⟨some 47, .op (.mov (.t 6)), none⟩,
                    ⟨some 10, .op (.mov (.t 47)), none⟩] [0, 5, 6, 10])
                (.block 4 (.loop (.seq (.seq (.region [⟨some 48, .op (.mov (.t 10)), none⟩,
                          ⟨some 49, .op (.mov (.t 0)), none⟩,
                          ⟨some 50, .op (.lenStr (.t 49)), none⟩,
                          ⟨some 51, .op (.bin .lss .basic (.t 48) (.t 50)), none⟩] [0, 5, 6, 10, 51])
                      (.cond (.t 51)
                        (.skip)
                        (.exit 4)))
                    (.seq (.block 5 (.seq (.region [⟨some 54, .op (.mov (.t 0)), none⟩,
                            ⟨some 55, .op (.mov (.t 10)), none⟩,
                            ⟨some 56, .op (.idxStr (.t 54) (.t 55)), none⟩,
                            ⟨some 57, .op (.bin .neq .basic (.t 56) (.c (.int .u8 49))), none⟩,
                            ⟨some 58, .op (.mov (.t 57)), none⟩,
                            ⟨some 59, .op (.mov (.t 0)), some (58, false)⟩,
                            ⟨some 60, .op (.lenStr (.t 59)), some (58, false)⟩,
                            ⟨some 61, .op (.mov (.t 6)), some (58, false)⟩,
                            ⟨some 62, .op (.bin .sub .basic (.t 60) (.t 61)), some (58, false)⟩,
                            ⟨some 63, .op (.bin .gtr .basic (.t 62) (.c (.int .i64 7))), some (58, false)⟩,
                            ⟨some 64, .pick (.t 58) (.c (.bool true)) (.t 63), none⟩] [0, 5, 6, 10, 64])
                        (.cond (.t 64)
                          (.seq (.region [⟨some 2, .op (.mov (.c (.string ⟨#[]⟩))), none⟩,
                              ⟨some 3, .op (.mov (.c (.int .i64 20))), none⟩] [2, 3])
                          (.ret))
                          (.skip))))
                    (.region [⟨some 52, .op (.mov (.t 10)), none⟩,
                      ⟨some 53, .op (.bin .add .basic (.t 52) (.c (.int .i64 1))), none⟩,
                      ⟨some 10, .op (.mov (.t 53)), none⟩] [0, 5, 6, 10]))))))
              (.seq (.region [⟨some 65, .op (.mov (.t 5)), none⟩,
                  ⟨some 66, .op (.bytesStr (.t 65)), none⟩,
                  ⟨some 2, .op (.mov (.t 66)), none⟩,
                  ⟨some 3, .op (.mov (.c (.int .i64 0))), none⟩] [2, 3])
              (.ret)))
              (.skip)))
          (.seq (.region [⟨some 67, .op (.mov (.t 5)), none⟩,
              ⟨some 68, .op (.mov (.t 7)), none⟩,
              ⟨some 69, .op (.convInt .u8 (.t 68)), none⟩,
              ⟨some 70, .op (.buildSlice 1 1 [.int .u8 0] [(0, 1, .t 69)]), none⟩,
              ⟨some 71, .op (.append 1 1 (.t 67) (.t 70)), none⟩,
              ⟨some 5, .op (.mov (.t 71)), none⟩] [0, 4, 5, 6, 7])
          (.region [⟨some 72, .op (.mov (.t 6)), none⟩,
            ⟨some 73, .op (.mov (.t 7)), none⟩,
            ⟨some 74, .op (.idxAddrA 257 1 (.t 4) (.t 73)), none⟩,
            ⟨some 75, .op (.load1 (.t 74)), none⟩,
            ⟨some 76, .op (.lenStr (.t 75)), none⟩,
            ⟨some 77, .op (.bin .add .basic (.t 72) (.t 76)), none⟩,
            ⟨some 6, .op (.mov (.t 77)), none⟩] [0, 4, 5, 6]))))))))))
  (.seq (.region [⟨some 78, .op (.mov (.t 5)), none⟩,
      ⟨some 79, .op (.bytesStr (.t 78)), none⟩,
      ⟨some 2, .op (.mov (.t 79)), none⟩,
      ⟨some 3, .op (.mov (.c (.int .i64 0))), none⟩] [2, 3])
  (.ret))))))⟩

theorem lf77_ok : cFunc Try.prog Try.f77 [[0], [0, 4], [0, 4, 5], [0, 4, 5, 6], [0, 4, 5, 6, 15], [0, 4, 5, 6, 7], [0, 4, 5, 6, 7, 8], [0, 4, 5, 6, 7, 8, 17], [0, 4, 5, 6, 7, 8, 9], [0, 4, 5, 6, 7, 8, 41], [0, 4, 5, 6, 7, 8], [0, 4, 5, 6, 7, 8], [0, 4, 5, 6, 7, 44], [2, 3], [0, 4, 5, 6, 7, 46], [0, 5, 6, 10], [0, 5, 6, 10, 51], [0, 5, 6, 10, 64], [2, 3], [0, 5, 6, 10], [2, 3], [0, 4, 5, 6, 7], [0, 4, 5, 6], [2, 3]] = some lf77 := by kernel_rfl

/-- squint/squintref02.Bits -/
def lf78 : LFunc := ⟨32, [.tmp 2],
  .seq (.region [⟨some 2, .op (.mov (.c (.string ⟨#[]⟩))), none⟩] [0])
  (.seq (.region [⟨some 3, .op (.mov (.c (.slice none 0 0))), none⟩] [0, 3])
  (.seq (.seq (.region [⟨some 4, .op (.mov (.c (.int .i64 0))), none⟩] [0, 3, 4])
    (.block 0 (.loop (.seq (.seq (.region [⟨some 7, .op (.mov (.t 4)), none⟩,
              ⟨some 8, .op (.mov (.t 0)), none⟩,
              ⟨some 9, .op (.lenStr (.t 8)), none⟩,
              ⟨some 10, .op (.bin .lss .basic (.t 7) (.t 9)), none⟩] [0, 3, 4, 10])
          (.cond (.t 10)
            (.skip)
            (.exit 0)))
        (.seq (.block 1 (.seq (.region [⟨some 13, .op (.mov (.t 0)), none⟩,
                ⟨some 14, .op (.mov (.t 4)), none⟩,
                ⟨some 15, .op (.idxStr (.t 13) (.t 14)), none⟩,
                ⟨some 16, .op (.convInt .i64 (.t 15)), none⟩,
                ⟨some 5, .op (.mov (.t 16)), none⟩] [0, 3, 4, 5])
            (.seq (.region [⟨some 6, .op (.mov (.c (.int .i64 128))), none⟩] [0, 3, 4, 5, 6])
            (.block 2 (.loop (.seq (.seq (.region [⟨some 17, .op (.mov (.t 6)), none⟩,
                      ⟨some 18, .op (.bin .gtr .basic (.t 17) (.c (.int .i64 0))), none⟩] [0, 3, 4, 5, 6, 18])
                  (.cond (.t 18)
                    (.skip)
                    (.exit 2)))
                (.seq (.block 3 (.region [⟨some 21, .op (.mov (.t 3)), none⟩,
                      ⟨some 22, .op (.mov (.t 5)), none⟩,
                      ⟨some 23, .op (.mov (.t 6)), none⟩,
                      ⟨some 24, .op (.bin .quo .basic (.t 22) (.t 23)), none⟩,
                      ⟨some 25, .op (.bin .rem .basic (.t 24) (.c (.int .i64 2))), none⟩,
                      ⟨some 26, .op (.bin .add .basic (.c (.int .i64 48)) (.t 25)), none⟩,
                      ⟨some 27, .op (.convInt .u8 (.t 26)), none⟩,
                      ⟨some 28, .op (.buildSlice 1 1 [.int .u8 0] [(0, 1, .t 27)]), none⟩,
                      ⟨some 29, .op (.append 1 1 (.t 21) (.t 28)), none⟩,
                      ⟨some 3, .op (.mov (.t 29)), none⟩] [0, 3, 4, 5, 6]))
                (.region [⟨some 19, .op (.mov (.t 6)), none⟩,
                  ⟨some 20, .op (.bin .quo .basic (.t 19) (.c (.int .i64 2))), none⟩,
                  ⟨some 6, .op (.mov (.t 20)), none⟩] [0, 3, 4, 5, 6]))))))))
        (.region [⟨some 11, .op (.mov (.t 4)), none⟩,
          ⟨some 12, .op (.bin .add .basic (.t 11) (.c (.int .i64 1))), none⟩,
          ⟨some 4, .op (.mov (.t 12)), none⟩] [0, 3, 4]))))))
  (.seq (.region [⟨some 30, .op (.mov (.t 3)), none⟩,
      ⟨some 31, .op (.bytesStr (.t 30)), none⟩,
      ⟨some 2, .op (.mov (.t 31)), none⟩] [2])
  (.ret))))⟩

theorem lf78_ok : cFunc Try.prog Try.f78 [[0], [0, 3], [0, 3, 4], [0, 3, 4, 10], [0, 3, 4, 5], [0, 3, 4, 5, 6], [0, 3, 4, 5, 6, 18], [0, 3, 4, 5, 6], [0, 3, 4, 5, 6], [0, 3, 4], [2]] = some lf78 := by kernel_rfl

/-- squint/squintref04.Encode -/
def lf84 : LFunc := ⟨18, [.tmp 4],
  .seq (.region [⟨some 4, .op (.mov (.c (.string ⟨#[]⟩))), none⟩] [0, 1])
  (.seq (.region [⟨some 6, .op (.mov (.t 0)), none⟩,
      ⟨some 5, .op (.mov (.t 6)), none⟩] [0, 1, 5])
  (.seq (.seq (.region [⟨some 7, .op (.mov (.t 1)), none⟩,
        ⟨some 8, .op (.bin .eql .basic (.t 7) (.c (.int .i64 1))), none⟩] [0, 1, 5, 8])
    (.cond (.t 8)
      (.region [⟨some 9, .op (.mov (.t 0)), none⟩,
        ⟨some 10, .call (.c (.func (.func 96) #[] #[])) [.t 9], none⟩,
        ⟨some 11, .call (.c (.func (.func 95) #[] #[])) [.t 10], none⟩,
        ⟨some 5, .op (.mov (.t 11)), none⟩] [1, 5])
      (.skip)))
  (.seq (.region [⟨some 12, .op (.mov (.t 5)), none⟩,
      ⟨some 13, .op (.lenStr (.t 12)), none⟩,
      ⟨some 14, .op (.mov (.t 1)), none⟩,
      ⟨some 15, .call (.c (.func (.func 61) #[] #[])) [.t 13, .c (.int .i64 7), .t 14], none⟩,
      ⟨some 16, .op (.mov (.t 5)), none⟩,
      ⟨some 17, .op (.bin .add .basic (.t 15) (.t 16)), none⟩,
      ⟨some 4, .op (.mov (.t 17)), none⟩] [4])
  (.ret))))⟩

theorem lf84_ok : cFunc Try.prog Try.f84 [[0, 1], [0, 1, 5], [0, 1, 5, 8], [1, 5], [4]] = some lf84 := by kernel_rfl

/-- squint/squintref02.Codes -/
def lf92 : LFunc := ⟨31, [.cellN 0 257],
  .seq (.region [⟨some 0, .op (.alloc [.string ⟨#[]⟩, .string ⟨#[]⟩, .string ⟨#[]⟩, .string ⟨#[]⟩, .string ⟨#[]⟩, .string ⟨#[]⟩, .string ⟨#[]⟩, .string ⟨#[]⟩, .string ⟨#[]⟩, .string ⟨#[]⟩, .string ⟨#[]⟩, .string ⟨#[]⟩, .string ⟨#[]⟩, .string ⟨#[]⟩, .string ⟨#[]⟩, .string ⟨#[]⟩, .string ⟨#[]⟩, .string ⟨#[]⟩, .string ⟨#[]⟩, .string ⟨#[]⟩, .string ⟨#[]⟩, .string ⟨#[]⟩, .string ⟨#[]⟩, .string ⟨#[]⟩, .string ⟨#[]⟩, .string ⟨#[]⟩, .string ⟨#[]⟩, .string ⟨#[]⟩, .string ⟨#[]⟩, .string ⟨#[]⟩, .string ⟨#[]⟩, .string ⟨#[]⟩, .string ⟨#[]⟩, .string ⟨#[]⟩, .string ⟨#[]⟩, .string ⟨#[]⟩, .string ⟨#[]⟩, .string ⟨#[]⟩, .string ⟨#[]⟩, .string ⟨#[]⟩, .string ⟨#[]⟩, .string ⟨#[]⟩, .string ⟨#[]⟩, .string ⟨#[]⟩, .string ⟨#[]⟩, .string ⟨#[]⟩, .string ⟨#[]⟩, .string ⟨#[]⟩, .string ⟨#[]⟩, .string ⟨#[]⟩, .string ⟨#[]⟩, .string ⟨#[]⟩, .string ⟨#[]⟩, .string ⟨#[]⟩, .string ⟨#[]⟩, .string ⟨#[]⟩, .string ⟨#[]⟩, .string ⟨#[]⟩, .string ⟨#[]⟩, .string ⟨#[]⟩, .string ⟨#[]⟩, .string ⟨#[]⟩, .string ⟨#[]⟩, .string ⟨#[]⟩, .string ⟨#[]⟩, .string ⟨#[]⟩, .string ⟨#[]⟩, .string ⟨#[]⟩, .string ⟨#[]⟩, .string ⟨#[]⟩, .string ⟨#[]⟩, .string ⟨#[]⟩, .string ⟨#[]⟩, .string ⟨#[]⟩, .string ⟨#[]⟩, .string ⟨#[]⟩, .string ⟨#[]⟩, .string ⟨#[]⟩, .string ⟨#[]⟩, .string ⟨#[]⟩, .string ⟨#[]⟩, .string ⟨#[]⟩, .string ⟨#[]⟩, .string ⟨#[]⟩, .string ⟨#[]⟩, .string ⟨#[]⟩, .string ⟨#[]⟩, .string ⟨#[]⟩, .string ⟨#[]⟩, .string ⟨#[]⟩, .string ⟨#[]⟩, .string ⟨#[]⟩, .string ⟨#[]⟩, .string ⟨#[]⟩, .string ⟨#[]⟩, .string ⟨#[]⟩, .string ⟨#[]⟩, .string ⟨#[]⟩, .string ⟨#[]⟩, .string ⟨#[]⟩, .string ⟨#[]⟩, .string ⟨#[]⟩, .string ⟨#[]⟩, .string ⟨#[]⟩, .string ⟨#[]⟩, .string ⟨#[]⟩, .string ⟨#[]⟩, .string ⟨#[]⟩, .string ⟨#[]⟩, .string ⟨#[]⟩, .string ⟨#[]⟩, .string ⟨#[]⟩, .string ⟨#[]⟩, .string ⟨#[]⟩, .string ⟨#[]⟩, .string ⟨#[]⟩, .string ⟨#[]⟩, .string ⟨#[]⟩, .string ⟨#[]⟩, .string ⟨#[]⟩, .string ⟨#[]⟩, .string ⟨#[]⟩, .string ⟨#[]⟩, .string ⟨#[]⟩, .string ⟨#[]⟩, .string ⟨#[]⟩, .string ⟨#[]⟩, .string ⟨#[]⟩, .string ⟨#[]⟩, .string ⟨#[]⟩, .string ⟨#[]⟩, .string ⟨#[]⟩, .string ⟨#[]⟩, .string ⟨#[]⟩, .string ⟨#[]⟩, .string ⟨#[]⟩, .string ⟨#[]⟩, .string ⟨#[]⟩, .string ⟨#[]⟩, .string ⟨#[]⟩, .string ⟨#[]⟩, .string ⟨#[]⟩, .string ⟨#[]⟩, .string ⟨#[]⟩, .string ⟨#[]⟩, .string ⟨#[]⟩, .string ⟨#[]⟩, .string ⟨#[]⟩, .string ⟨#[]⟩, .string ⟨#[]⟩, .string ⟨#[]⟩, .string ⟨#[]⟩, .string ⟨#[]⟩, .string ⟨#[]⟩, .string ⟨#[]⟩, .string ⟨#[]⟩, .string ⟨#[]⟩, .string ⟨#[]⟩, .string ⟨#[]⟩, .string ⟨#[]⟩, .string ⟨#[]⟩, .string ⟨#[]⟩, .string ⟨#[]⟩, .string ⟨#[]⟩, .string ⟨#[]⟩, .string ⟨#[]⟩, .string ⟨#[]⟩, .string ⟨#[]⟩, .string ⟨#[]⟩, .string ⟨#[]⟩, .string ⟨#[]⟩, .string ⟨#[]⟩, .string ⟨#[]⟩, .string ⟨#[]⟩, .string ⟨#[]⟩, .string ⟨#[]⟩, .string ⟨#[]⟩, .string ⟨#[]⟩, .string ⟨#[]⟩, .string ⟨#[]⟩, .string ⟨#[]⟩, .string ⟨#[]⟩, .string ⟨#[]⟩, .string ⟨#[]⟩, .string ⟨#[]⟩, .string ⟨#[]⟩, .string ⟨#[]⟩, .string ⟨#[]⟩, .string ⟨#[]⟩, .string ⟨#[]⟩, .string ⟨#[]⟩, .string ⟨#[]⟩, .string ⟨#[]⟩, .string ⟨#[]⟩, .string ⟨#[]⟩, .string ⟨#[]⟩, .string ⟨#[]⟩, .string ⟨#[]⟩, .string ⟨#[]⟩, .string ⟨#[]⟩, .string ⟨#[]⟩, .string ⟨#[]⟩, .string ⟨#[]⟩, .string ⟨#[]⟩, .string ⟨#[]⟩, .string ⟨#[]⟩, .string ⟨#[]⟩, .string ⟨#[]⟩, .string ⟨#[]⟩, .string ⟨#[]⟩, .string ⟨#[]⟩, .string ⟨#[]⟩, .string ⟨#[]⟩, .string ⟨#[]⟩, .string ⟨#[]⟩, .string ⟨#[]⟩, .string ⟨#[]⟩, .string ⟨#[]⟩, .string ⟨#[]⟩, .string ⟨#[]⟩, .string ⟨#[]⟩, .string ⟨#[]⟩, .string ⟨#[]⟩, .string ⟨#[]⟩, .string ⟨#[]⟩, .string ⟨#[]⟩, .string ⟨#[]⟩, .string ⟨#[]⟩, .string ⟨#[]⟩, .string ⟨#[]⟩, .string ⟨#[]⟩, .string ⟨#[]⟩, .string ⟨#[]⟩, .string ⟨#[]⟩, .string ⟨#[]⟩, .string ⟨#[]⟩, .string ⟨#[]⟩, .string ⟨#[]⟩, .string ⟨#[]⟩, .string ⟨#[]⟩, .string ⟨#[]⟩, .string ⟨#[]⟩, .string ⟨#[]⟩, .string ⟨#[]⟩, .string ⟨#[]⟩, .string ⟨#[]⟩, .string ⟨#[]⟩, .string ⟨#[]⟩, .string ⟨#[]⟩, .string ⟨#[]⟩, .string ⟨#[]⟩, .string ⟨#[]⟩, .string ⟨#[]⟩, .string ⟨#[]⟩, .string ⟨#[]⟩, .string ⟨#[]⟩, .string ⟨#[]⟩]), none⟩] [0])
  (.seq (.region [⟨some 1, .op (.alloc [.string ⟨#[]⟩, .string ⟨#[]⟩, .string ⟨#[]⟩, .string ⟨#[]⟩, .string ⟨#[]⟩, .string ⟨#[]⟩, .string ⟨#[]⟩, .string ⟨#[]⟩, .string ⟨#[]⟩, .string ⟨#[]⟩, .string ⟨#[]⟩, .string ⟨#[]⟩, .string ⟨#[]⟩, .string ⟨#[]⟩, .string ⟨#[]⟩, .string ⟨#[]⟩, .string ⟨#[]⟩, .string ⟨#[]⟩, .string ⟨#[]⟩, .string ⟨#[]⟩, .string ⟨#[]⟩, .string ⟨#[]⟩, .string ⟨#[]⟩, .string ⟨#[]⟩, .string ⟨#[]⟩, .string ⟨#[]⟩, .string ⟨#[]⟩, .string ⟨#[]⟩, .string ⟨#[]⟩, .string ⟨#[]⟩, .string ⟨#[]⟩, .string ⟨#[]⟩, .string ⟨#[]⟩, .string ⟨#[]⟩, .string ⟨#[]⟩, .string ⟨#[]⟩, .string ⟨#[]⟩, .string ⟨#[]⟩, .string ⟨#[]⟩, .string ⟨#[]⟩, .string ⟨#[]⟩, .string ⟨#[]⟩, .string ⟨#[]⟩, .string ⟨#[]⟩, .string ⟨#[]⟩, .string ⟨#[]⟩, .string ⟨#[]⟩, .string ⟨#[]⟩, .string ⟨#[]⟩, .string ⟨#[]⟩, .string ⟨#[]⟩, .string ⟨#[]⟩, .string ⟨#[]⟩, .string ⟨#[]⟩, .string ⟨#[]⟩, .string ⟨#[]⟩, .string ⟨#[]⟩, .string ⟨#[]⟩, .string ⟨#[]⟩, .string ⟨#[]⟩, .string ⟨#[]⟩, .string ⟨#[]⟩, .string ⟨#[]⟩, .string ⟨#[]⟩, .string ⟨#[]⟩, .string ⟨#[]⟩, .string ⟨#[]⟩, .string ⟨#[]⟩, .string ⟨#[]⟩, .string ⟨#[]⟩, .string ⟨#[]⟩, .string ⟨#[]⟩, .string ⟨#[]⟩, .string ⟨#[]⟩, .string ⟨#[]⟩, .string ⟨#[]⟩, .string ⟨#[]⟩, .string ⟨#[]⟩, .string ⟨#[]⟩, .string ⟨#[]⟩, .string ⟨#[]⟩, .string ⟨#[]⟩, .string ⟨#[]⟩, .string ⟨#[]⟩, .string ⟨#[]⟩, .string ⟨#[]⟩, .string ⟨#[]⟩, .string ⟨#[]⟩, .string ⟨#[]⟩, .string ⟨#[]⟩, .string ⟨#[]⟩, .string ⟨#[]⟩, .string ⟨#[]⟩, .string ⟨#[]⟩, .string ⟨#[]⟩, .string ⟨#[]⟩, .string ⟨#[]⟩, .string ⟨#[]⟩, .string ⟨#[]⟩, .string ⟨#[]⟩, .string ⟨#[]⟩, .string ⟨#[]⟩, .string ⟨#[]⟩, .string ⟨#[]⟩, .string ⟨#[]⟩, .string ⟨#[]⟩, .string ⟨#[]⟩, .string ⟨#[]⟩, .string ⟨#[]⟩, .string ⟨#[]⟩, .string ⟨#[]⟩, .string ⟨#[]⟩, .string ⟨#[]⟩, .string ⟨#[]⟩, .string ⟨#[]⟩, .string ⟨#[]⟩, .string ⟨#[]⟩, .string ⟨#[]⟩, .string ⟨#[]⟩, .string ⟨#[]⟩, .string ⟨#[]⟩, .string ⟨#[]⟩, .string ⟨#[]⟩, .string ⟨#[]⟩, .string ⟨#[]⟩, .string ⟨#[]⟩, .string ⟨#[]⟩, .string ⟨#[]⟩, .string ⟨#[]⟩, .string ⟨#[]⟩, .string ⟨#[]⟩, .string ⟨#[]⟩, .string ⟨#[]⟩, .string ⟨#[]⟩, .string ⟨#[]⟩, .string ⟨#[]⟩, .string ⟨#[]⟩, .string ⟨#[]⟩, .string ⟨#[]⟩, .string ⟨#[]⟩, .string ⟨#[]⟩, .string ⟨#[]⟩, .string ⟨#[]⟩, .string ⟨#[]⟩, .string ⟨#[]⟩, .string ⟨#[]⟩, .string ⟨#[]⟩, .string ⟨#[]⟩, .string ⟨#[]⟩, .string ⟨#[]⟩, .string ⟨#[]⟩, .string ⟨#[]⟩, .string ⟨#[]⟩, .string ⟨#[]⟩, .string ⟨#[]⟩, .string ⟨#[]⟩, .string ⟨#[]⟩, .string ⟨#[]⟩, .string ⟨#[]⟩, .string ⟨#[]⟩, .string ⟨#[]⟩, .string ⟨#[]⟩, .string ⟨#[]⟩, .string ⟨#[]⟩, .string ⟨#[]⟩, .string ⟨#[]⟩, .string ⟨#[]⟩, .string ⟨#[]⟩, .string ⟨#[]⟩, .string ⟨#[]⟩, .string ⟨#[]⟩, .string ⟨#[]⟩, .string ⟨#[]⟩, .string ⟨#[]⟩, .string ⟨#[]⟩, .string ⟨#[]⟩, .string ⟨#[]⟩, .string ⟨#[]⟩, .string ⟨#[]⟩, .string ⟨#[]⟩, .string ⟨#[]⟩, .string ⟨#[]⟩, .string ⟨#[]⟩, .string ⟨#[]⟩, .string ⟨#[]⟩, .string ⟨#[]⟩, .string ⟨#[]⟩, .string ⟨#[]⟩, .string ⟨#[]⟩, .string ⟨#[]⟩, .string ⟨#[]⟩, .string ⟨#[]⟩, .string ⟨#[]⟩, .string ⟨#[]⟩, .string ⟨#[]⟩, .string ⟨#[]⟩, .string ⟨#[]⟩, .string ⟨#[]⟩, .string ⟨#[]⟩, .string ⟨#[]⟩, .string ⟨#[]⟩, .string ⟨#[]⟩, .string ⟨#[]⟩, .string ⟨#[]⟩, .string ⟨#[]⟩, .string ⟨#[]⟩, .string ⟨#[]⟩, .string ⟨#[]⟩, .string ⟨#[]⟩, .string ⟨#[]⟩, .string ⟨#[]⟩, .string ⟨#[]⟩, .string ⟨#[]⟩, .string ⟨#[]⟩, .string ⟨#[]⟩, .string ⟨#[]⟩, .string ⟨#[]⟩, .string ⟨#[]⟩, .string ⟨#[]⟩, .string ⟨#[]⟩, .string ⟨#[]⟩, .string ⟨#[]⟩, .string ⟨#[]⟩, .string ⟨#[]⟩, .string ⟨#[]⟩, .string ⟨#[]⟩, .string ⟨#[]⟩, .string ⟨#[]⟩, .string ⟨#[]⟩, .string ⟨#[]⟩, .string ⟨#[]⟩, .string ⟨#[]⟩, .string ⟨#[]⟩, .string ⟨#[]⟩, .string ⟨#[]⟩, .string ⟨#[]⟩, .string ⟨#[]⟩, .string ⟨#[]⟩, .string ⟨#[]⟩, .string ⟨#[]⟩, .string ⟨#[]⟩, .string ⟨#[]⟩, .string ⟨#[]⟩, .string ⟨#[]⟩, .string ⟨#[]⟩, .string ⟨#[]⟩, .string ⟨#[]⟩, .string ⟨#[]⟩, .string ⟨#[]⟩, .string ⟨#[]⟩, .string ⟨#[]⟩, .string ⟨#[]⟩, .string ⟨#[]⟩, .string ⟨#[]⟩, .string ⟨#[]⟩, .string ⟨#[]⟩, .string ⟨#[]⟩]), none⟩] [0, 1])
  (.seq (.region [⟨some 2, .op (.mov (.c (.string ⟨#[]⟩))), none⟩] [0, 1, 2])
  (.seq (.seq (.region [⟨some 3, .op (.mov (.c (.int .i64 5))), none⟩] [0, 1, 2, 3])
    (.block 0 (.loop (.seq (.seq (.region [⟨some 5, .op (.mov (.t 3)), none⟩,
              ⟨some 6, .op (.bin .leq .basic (.t 5) (.c (.int .i64 30))), none⟩] [0, 1, 2, 3, 6])
          (.cond (.t 6)
            (.skip)
            (.exit 0)))
        (.seq (.block 1 (.seq (.region [⟨some 4, .op (.mov (.c (.int .i64 0))), none⟩] [0, 1, 2, 3, 4])
            (.block 2 (.loop (.seq (.seq (.region [⟨some 9, .op (.mov (.t 4)), none⟩,
                      ⟨some 10, .op (.bin .lss .basic (.t 9) (.c (.int .i64 257))), none⟩] [0, 1, 2, 3, 4, 10])
                  (.cond (.t 10)
                    (.skip)
                    (.exit 2)))
                (.seq (.block 3 (.seq (.seq (.region [⟨some 13, .op (.mov (.t 4)), none⟩,
                          ⟨some 14, .call (.c (.func (.func 97) #[] #[])) [.t 13], none⟩,
                          ⟨some 15, .op (.mov (.t 3)), none⟩,
                          ⟨some 16, .op (.bin .neq .basic (.t 14) (.t 15)), none⟩] [0, 1, 2, 3, 4, 16])
                      (.cond (.t 16)
                        (.exit 3)
                        (.skip)))
                    (.seq (.seq (.region [⟨some 17, .op (.mov (.t 2)), none⟩,
                          ⟨some 18, .op (.bin .eql .basic (.t 17) (.c (.string ⟨#[]⟩))), none⟩] [0, 1, 2, 3, 4, 18])
                      (.cond (.t 18)
                        (.region [⟨some 2, .op (.mov (.c (.string ⟨#[48, 48, 48, 48, 48]⟩))), none⟩] [0, 1, 2, 3, 4])
                        (.region [⟨some 19, .op (.mov (.t 2)), none⟩,
                          ⟨some 20, .call (.c (.func (.func 98) #[] #[])) [.t 19], none⟩,
                          ⟨some 2, .op (.mov (.t 20)), none⟩] [0, 1, 2, 3, 4])))
                    (.seq (.block 4 (.loop (.seq (.seq (.region [⟨some 21, .op (.mov (.t 2)), none⟩,
                                ⟨some 22, .op (.lenStr (.t 21)), none⟩,
                                ⟨some 23, .op (.mov (.t 3)), none⟩,
                                ⟨some 24, .op (.bin .lss .basic (.t 22) (.t 23)), none⟩] [0, 1, 2, 3, 4, 24])
                            (.cond (.t 24)
                              (.skip)
                              (.exit 4)))
                          (.block 5 (.region [⟨some 25, .op (.mov (.t 2)), none⟩,
                              ⟨some 26, .op (.bin .add .basic (.t 25) (.c (.string ⟨#[48]⟩))), none⟩,
                              ⟨some 2, .op (.mov (.t 26)), none⟩] [0, 1, 2, 3, 4])))))
                    (.region [⟨some 27, .op (.mov (.t 4)), none⟩,
                      ⟨some 28, .op (.mov (.t 2)), none⟩,
                      ⟨some 29, .op (.idxAddrA 257 1 (.t 1) (.t 27)), none⟩,
                      ⟨none, .op (.store 1 (.t 29) (.t 28)), none⟩] [0, 1, 2, 3, 4])))))
                (.region [⟨some 11, .op (.mov (.t 4)), none⟩,
                  ⟨some 12, .op (.bin .add .basic (.t 11) (.c (.int .i64 1))), none⟩,
                  ⟨some 4, .op (.mov (.t 12)), none⟩] [0, 1, 2, 3, 4])))))))
        (.region [⟨some 7, .op (.mov (.t 3)), none⟩,
          ⟨some 8, .op (.bin .add .basic (.t 7) (.c (.int .i64 1))), none⟩,
          ⟨some 3, .op (.mov (.t 8)), none⟩] [0, 1, 2, 3]))))))
  (.seq (.region [⟨some 30, .op (.loadN 257 (.t 1)), none⟩,
      ⟨none, .op (.store 257 (.t 0) (.t 30)), none⟩] [0])
  (.ret)))))⟩

theorem lf92_ok : cFunc Try.prog Try.f92 [[0], [0, 1], [0, 1, 2], [0, 1, 2, 3], [0, 1, 2, 3, 6], [0, 1, 2, 3, 4], [0, 1, 2, 3, 4, 10], [0, 1, 2, 3, 4, 16], [0, 1, 2, 3, 4, 18], [0, 1, 2, 3, 4], [0, 1, 2, 3, 4], [0, 1, 2, 3, 4, 24], [0, 1, 2, 3, 4], [0, 1, 2, 3, 4], [0, 1, 2, 3, 4], [0, 1, 2, 3], [0]] = some lf92 := by kernel_rfl

/-- squint/squintref04.bytes -/
def lf95 : LFunc := ⟨35, [.tmp 2],
  .seq (.region [⟨some 2, .op (.mov (.c (.string ⟨#[]⟩))), none⟩] [0])
  (.seq (.region [⟨some 3, .op (.mov (.c (.slice none 0 0))), none⟩] [0, 3])
  (.seq (.seq (.region [⟨some 4, .op (.mov (.c (.int .i64 0))), none⟩] [0, 3, 4])
    (.block 0 (.loop (.seq (.seq (.region [⟨some 7, .op (.mov (.t 4)), none⟩,
              ⟨some 8, .op (.bin .add .basic (.t 7) (.c (.int .i64 8))), none⟩,
              ⟨some 9, .op (.mov (.t 0)), none⟩,
              ⟨some 10, .op (.lenStr (.t 9)), none⟩,
              ⟨some 11, .op (.bin .leq .basic (.t 8) (.t 10)), none⟩] [0, 3, 4, 11])
          (.cond (.t 11)
            (.skip)
            (.exit 0)))
        (.seq (.block 1 (.seq (.region [⟨some 5, .op (.mov (.c (.int .i64 0))), none⟩] [0, 3, 4, 5])
            (.seq (.seq (.region [⟨some 6, .op (.mov (.c (.int .i64 0))), none⟩] [0, 3, 4, 5, 6])
              (.block 2 (.loop (.seq (.seq (.region [⟨some 14, .op (.mov (.t 6)), none⟩,
                        ⟨some 15, .op (.bin .lss .basic (.t 14) (.c (.int .i64 8))), none⟩] [0, 3, 4, 5, 6, 15])
                    (.cond (.t 15)
                      (.skip)
                      (.exit 2)))
                  (.seq (.block 3 (.region [⟨some 18, .op (.mov (.t 5)), none⟩,
                        ⟨some 19, .op (.bin .mul .basic (.t 18) (.c (.int .i64 2))), none⟩,
                        ⟨some 20, .op (.mov (.t 0)), none⟩,
                        ⟨some 21, .op (.mov (.t 4)), none⟩,
                        ⟨some 22, .op (.mov (.t 6)), none⟩,
                        ⟨some 23, .op (.bin .add .basic (.t 21) (.t 22)), none⟩,
                        ⟨some 24, .op (.idxStr (.t 20) (.t 23)), none⟩,
                        ⟨some 25, .op (.bin .sub .basic (.t 24) (.c (.int .u8 48))), none⟩,
                        ⟨some 26, .op (.convInt .i64 (.t 25)), none⟩,
                        ⟨some 27, .op (.bin .add .basic (.t 19) (.t 26)), none⟩,
                        ⟨some 5, .op (.mov (.t 27)), none⟩] [0, 3, 4, 5, 6]))
                  (.region [⟨some 16, .op (.mov (.t 6)), none⟩,
                    ⟨some 17, .op (.bin .add .basic (.t 16) (.c (.int .i64 1))), none⟩,
                    ⟨some 6, .op (.mov (.t 17)), none⟩] [0, 3, 4, 5, 6]))))))
            (.region [⟨some 28, .op (.mov (.t 3)), none⟩,
              ⟨some 29, .op (.mov (.t 5)), none⟩,
              ⟨some 30, .op (.convInt .u8 (.t 29)), none⟩,
              ⟨some 31, .op (.buildSlice 1 1 [.int .u8 0] [(0, 1, .t 30)]), none⟩,
              ⟨some 32, .op (.append 1 1 (.t 28) (.t 31)), none⟩,
              ⟨some 3, .op (.mov (.t 32)), none⟩] [0, 3, 4]))))
        (.region [⟨some 12, .op (.mov (.t 4)), none⟩,
          ⟨some 13, .op (.bin .add .basic (.t 12) (.c (.int .i64 8))), none⟩,
          ⟨some 4, .op (.mov (.t 13)), none⟩] [0, 3, 4]))))))
  (.seq (.region [⟨some 33, .op (.mov (.t 3)), none⟩,
      ⟨some 34, .op (.bytesStr (.t 33)), none⟩,
      ⟨some 2, .op (.mov (.t 34)), none⟩] [2])
  (.ret))))⟩

theorem lf95_ok : cFunc Try.prog Try.f95 [[0], [0, 3], [0, 3, 4], [0, 3, 4, 11], [0, 3, 4, 5], [0, 3, 4, 5, 6], [0, 3, 4, 5, 6, 15], [0, 3, 4, 5, 6], [0, 3, 4, 5, 6], [0, 3, 4], [0, 3, 4], [2]] = some lf95 := by kernel_rfl

/-- squint/squintref02.Text -/
def lf96 : LFunc := ⟨28, [.tmp 2],
  .seq (.region [⟨some 2, .op (.mov (.c (.string ⟨#[]⟩))), none⟩] [0])
  (.seq (.region [⟨some 6, .call (.c (.func (.func 92) #[] #[])) [], none⟩,
      ⟨some 3, .op (.alloc [.string ⟨#[]⟩, .string ⟨#[]⟩, .string ⟨#[]⟩, .string ⟨#[]⟩, .string ⟨#[]⟩, .string ⟨#[]⟩, .string ⟨#[]⟩, .string ⟨#[]⟩, .string ⟨#[]⟩, .string ⟨#[]⟩, .string ⟨#[]⟩, .string ⟨#[]⟩, .string ⟨#[]⟩, .string ⟨#[]⟩, .string ⟨#[]⟩, .string ⟨#[]⟩, .string ⟨#[]⟩, .string ⟨#[]⟩, .string ⟨#[]⟩, .string ⟨#[]⟩, .string ⟨#[]⟩, .string ⟨#[]⟩, .string ⟨#[]⟩, .string ⟨#[]⟩, .string ⟨#[]⟩, .string ⟨#[]⟩, .string ⟨#[]⟩, .string ⟨#[]⟩, .string ⟨#[]⟩, .string ⟨#[]⟩, .string ⟨#[]⟩, .string ⟨#[]⟩, .string ⟨#[]⟩, .string ⟨#[]⟩, .string ⟨#[]⟩, .string ⟨#[]⟩, .string ⟨#[]⟩, .string ⟨#[]⟩, .string ⟨#[]⟩, .string ⟨#[]⟩, .string ⟨#[]⟩, .string ⟨#[]⟩, .string ⟨#[]⟩, .string ⟨#[]⟩, .string ⟨#[]⟩, .string ⟨#[]⟩, .string ⟨#[]⟩, .string ⟨#[]⟩, .string ⟨#[]⟩, .string ⟨#[]⟩, .string ⟨#[]⟩, .string ⟨#[]⟩, .string ⟨#[]⟩, .string ⟨#[]⟩, .string ⟨#[]⟩, .string ⟨#[]⟩, .string ⟨#[]⟩, .string ⟨#[]⟩, .string ⟨#[]⟩, .string ⟨#[]⟩, .string ⟨#[]⟩, .string ⟨#[]⟩, .string ⟨#[]⟩, .string ⟨#[]⟩, .string ⟨#[]⟩, .string ⟨#[]⟩, .string ⟨#[]⟩, .string ⟨#[]⟩, .string ⟨#[]⟩, .string ⟨#[]⟩, .string ⟨#[]⟩, .string ⟨#[]⟩, .string ⟨#[]⟩, .string ⟨#[]⟩, .string ⟨#[]⟩, .string ⟨#[]⟩, .string ⟨#[]⟩, .string ⟨#[]⟩, .string ⟨#[]⟩, .string ⟨#[]⟩, .string ⟨#[]⟩, .string ⟨#[]⟩, .string ⟨#[]⟩, .string ⟨#[]⟩, .string ⟨#[]⟩, .string ⟨#[]⟩, .string ⟨#[]⟩, .string ⟨#[]⟩, .string ⟨#[]⟩, .string ⟨#[]⟩, .string ⟨#[]⟩, .string ⟨#[]⟩, .string ⟨#[]⟩, .string ⟨#[]⟩, .string ⟨#[]⟩, .string ⟨#[]⟩, .string ⟨#[]⟩, .string ⟨#[]⟩, .string ⟨#[]⟩, .string ⟨#[]⟩, .string ⟨#[]⟩, .string ⟨#[]⟩, .string ⟨#[]⟩, .string ⟨#[]⟩, .string ⟨#[]⟩, .string ⟨#[]⟩, .string ⟨#[]⟩, .string ⟨#[]⟩, .string ⟨#[]⟩, .string ⟨#[]⟩, .string ⟨#[]⟩, .string ⟨#[]⟩, .string ⟨#[]⟩, .string ⟨#[]⟩, .string ⟨#[]⟩, .string ⟨#[]⟩, .string ⟨#[]⟩, .string ⟨#[]⟩, .string ⟨#[]⟩, .string ⟨#[]⟩, .string ⟨#[]⟩, .string ⟨#[]⟩, .string ⟨#[]⟩, .string ⟨#[]⟩, .string ⟨#[]⟩, .string ⟨#[]⟩, .string ⟨#[]⟩, .string ⟨#[]⟩, .string ⟨#[]⟩, .string ⟨#[]⟩, .string ⟨#[]⟩, .string ⟨#[]⟩, .string ⟨#[]⟩, .string ⟨#[]⟩, .string ⟨#[]⟩, .string ⟨#[]⟩, .string ⟨#[]⟩, .string ⟨#[]⟩, .string ⟨#[]⟩, .string ⟨#[]⟩, .string ⟨#[]⟩, .string ⟨#[]⟩, .string ⟨#[]⟩, .string ⟨#[]⟩, .string ⟨#[]⟩, .string ⟨#[]⟩, .string ⟨#[]⟩, .string ⟨#[]⟩, .string ⟨#[]⟩, .string ⟨#[]⟩, .string ⟨#[]⟩, .string ⟨#[]⟩, .string ⟨#[]⟩, .string ⟨#[]⟩, .string ⟨#[]⟩, .string ⟨#[]⟩, .string ⟨#[]⟩, .string ⟨#[]⟩, .string ⟨#[]⟩, .string ⟨#[]⟩, .string ⟨#[]⟩, .string ⟨#[]⟩, .string ⟨#[]⟩, .string ⟨#[]⟩, .string ⟨#[]⟩, .string ⟨#[]⟩, .string ⟨#[]⟩, .string ⟨#[]⟩, .string ⟨#[]⟩, .string ⟨#[]⟩, .string ⟨#[]⟩, .string ⟨#[]⟩, .string ⟨#[]⟩, .string ⟨#[]⟩, .string ⟨#[]⟩, .string ⟨#[]⟩, .string ⟨#[]⟩, .string ⟨#[]⟩, .string ⟨#[]⟩, .string ⟨#[]⟩, .string ⟨#[]⟩, .string ⟨#[]⟩, .string ⟨#[]⟩, .string ⟨#[]⟩, .string ⟨#[]⟩, .string ⟨#[]⟩, .string ⟨#[]⟩, .string ⟨#[]⟩, .string ⟨#[]⟩, .string ⟨#[]⟩, .string ⟨#[]⟩, .string ⟨#[]⟩, .string ⟨#[]⟩, .string ⟨#[]⟩, .string ⟨#[]⟩, .string ⟨#[]⟩, .string ⟨#[]⟩, .string ⟨#[]⟩, .string ⟨#[]⟩, .string ⟨#[]⟩, .string ⟨#[]⟩, .string ⟨#[]⟩, .string ⟨#[]⟩, .string ⟨#[]⟩, .string ⟨#[]⟩, .string ⟨#[]⟩, .string ⟨#[]⟩, .string ⟨#[]⟩, .string ⟨#[]⟩, .string ⟨#[]⟩, .string ⟨#[]⟩, .string ⟨#[]⟩, .string ⟨#[]⟩, .string ⟨#[]⟩, .string ⟨#[]⟩, .string ⟨#[]⟩, .string ⟨#[]⟩, .string ⟨#[]⟩, .string ⟨#[]⟩, .string ⟨#[]⟩, .string ⟨#[]⟩, .string ⟨#[]⟩, .string ⟨#[]⟩, .string ⟨#[]⟩, .string ⟨#[]⟩, .string ⟨#[]⟩, .string ⟨#[]⟩, .string ⟨#[]⟩, .string ⟨#[]⟩, .string ⟨#[]⟩, .string ⟨#[]⟩, .string ⟨#[]⟩, .string ⟨#[]⟩, .string ⟨#[]⟩, .string ⟨#[]⟩, .string ⟨#[]⟩, .string ⟨#[]⟩, .string ⟨#[]⟩, .string ⟨#[]⟩, .string ⟨#[]⟩, .string ⟨#[]⟩, .string ⟨#[]⟩, .string ⟨#[]⟩, .string ⟨#[]⟩, .string ⟨#[]⟩, .string ⟨#[]⟩, .string ⟨#[]⟩, .string ⟨#[]⟩, .string ⟨#[]⟩, .string ⟨#[]⟩, .string ⟨#[]⟩, .string ⟨#[]⟩, .string ⟨#[]⟩, .string ⟨#[]⟩, .string ⟨#[]⟩, .string ⟨#[]⟩, .string ⟨#[]⟩]), none⟩,
      ⟨none, .op (.store 257 (.t 3) (.t 6)), none⟩] [0, 3])
  (.seq (.region [⟨some 4, .op (.mov (.c (.string ⟨#[]⟩))), none⟩] [0, 3, 4])
  (.seq (.seq (.region [⟨some 5, .op (.mov (.c (.int .i64 0))), none⟩] [0, 3, 4, 5])
    (.block 0 (.loop (.seq (.seq (.region [⟨some 7, .op (.mov (.t 5)), none⟩,
              ⟨some 8, .op (.mov (.t 0)), none⟩,
              ⟨some 9, .op (.lenStr (.t 8)), none⟩,
              ⟨some 10, .op (.bin .lss .basic (.t 7) (.t 9)), none⟩] [0, 3, 4, 5, 10])
          (.cond (.t 10)
            (.skip)
            (.exit 0)))
        (.seq (.block 1 (.region [⟨some 13, .op (.mov (.t 4)), none⟩,
              ⟨some 14, .op (.mov (.t 0)), none⟩,
              ⟨some 15, .op (.mov (.t 5)), none⟩,
              ⟨some 16, .op (.idxStr (.t 14) (.t 15)), none⟩,
              ⟨some 17, .op (.convInt .i64 (.t 16)), none⟩,
              ⟨some 18, .op (.idxAddrA 257 1 (.t 3) (.t 17)), none⟩,
              ⟨some 19, .op (.load1 (.t 18)), none⟩,
              ⟨some 20, .op (.bin .add .basic (.t 13) (.t 19)), none⟩,
              ⟨some 4, .op (.mov (.t 20)), none⟩] [0, 3, 4, 5]))
        (.region [⟨some 11, .op (.mov (.t 5)), none⟩,
          ⟨some 12, .op (.bin .add .basic (.t 11) (.c (.int .i64 1))), none⟩,
          ⟨some 5, .op (.mov (.t 12)), none⟩] [0, 3, 4, 5]))))))
  (.seq (.block 2 (.loop (.seq (.seq (.region [⟨some 21, .op (.mov (.t 4)), none⟩,
              ⟨some 22, .op (.lenStr (.t 21)), none⟩,
              ⟨some 23, .op (.bin .rem .basic (.t 22) (.c (.int .i64 8))), none⟩,
              ⟨some 24, .op (.bin .neq .basic (.t 23) (.c (.int .i64 0))), none⟩] [4, 24])
          (.cond (.t 24)
            (.skip)
            (.exit 2)))
        (.block 3 (.region [⟨some 25, .op (.mov (.t 4)), none⟩,
            ⟨some 26, .op (.bin .add .basic (.t 25) (.c (.string ⟨#[49]⟩))), none⟩,
            ⟨some 4, .op (.mov (.t 26)), none⟩] [4])))))
  (.seq (.region [⟨some 27, .op (.mov (.t 4)), none⟩,
      ⟨some 2, .op (.mov (.t 27)), none⟩] [2])
  (.ret))))))⟩

theorem lf96_ok : cFunc Try.prog Try.f96 [[0], [0, 3], [0, 3, 4], [0, 3, 4, 5], [0, 3, 4, 5, 10], [0, 3, 4, 5], [0, 3, 4, 5], [4, 24], [4], [2]] = some lf96 := by kernel_rfl

/-- squint/squintref02.Length -/
def lf97 : LFunc := ⟨8, [.tmp 2],
  .seq (.region [⟨some 2, .op (.mov (.c (.int .i64 0))), none⟩] [0])
  (.seq (.region [⟨some 4, .op (.build [.int .i64 0, .int .i64 0, .int .i64 0, .int .i64 0, .int .i64 0, .int .i64 0, .int .i64 0, .int .i64 0, .int .i64 0, .int .i64 0, .int .i64 0, .int .i64 0, .int .i64 0, .int .i64 0, .int .i64 0, .int .i64 0, .int .i64 0, .int .i64 0, .int .i64 0, .int .i64 0, .int .i64 0, .int .i64 0, .int .i64 0, .int .i64 0, .int .i64 0, .int .i64 0, .int .i64 0, .int .i64 0, .int .i64 0, .int .i64 0, .int .i64 0, .int .i64 0, .int .i64 0, .int .i64 0, .int .i64 0, .int .i64 0, .int .i64 0, .int .i64 0, .int .i64 0, .int .i64 0, .int .i64 0, .int .i64 0, .int .i64 0, .int .i64 0, .int .i64 0, .int .i64 0, .int .i64 0, .int .i64 0, .int .i64 0, .int .i64 0, .int .i64 0, .int .i64 0, .int .i64 0, .int .i64 0, .int .i64 0, .int .i64 0, .int .i64 0, .int .i64 0, .int .i64 0, .int .i64 0, .int .i64 0, .int .i64 0, .int .i64 0, .int .i64 0, .int .i64 0, .int .i64 0, .int .i64 0, .int .i64 0, .int .i64 0, .int .i64 0, .int .i64 0, .int .i64 0, .int .i64 0, .int .i64 0, .int .i64 0, .int .i64 0, .int .i64 0, .int .i64 0, .int .i64 0, .int .i64 0, .int .i64 0, .int .i64 0, .int .i64 0, .int .i64 0, .int .i64 0, .int .i64 0, .int .i64 0, .int .i64 0, .int .i64 0, .int .i64 0, .int .i64 0, .int .i64 0, .int .i64 0, .int .i64 0, .int .i64 0, .int .i64 0, .int .i64 0, .int .i64 0, .int .i64 0, .int .i64 0, .int .i64 0, .int .i64 0, .int .i64 0, .int .i64 0, .int .i64 0, .int .i64 0, .int .i64 0, .int .i64 0, .int .i64 0, .int .i64 0, .int .i64 0, .int .i64 0, .int .i64 0, .int .i64 0, .int .i64 0, .int .i64 0, .int .i64 0, .int .i64 0, .int .i64 0, .int .i64 0, .int .i64 0, .int .i64 0, .int .i64 0, .int .i64 0, .int .i64 0, .int .i64 0, .int .i64 0, .int .i64 0, .int .i64 0, .int .i64 0, .int .i64 0, .int .i64 0, .int .i64 0, .int .i64 0, .int .i64 0, .int .i64 0, .int .i64 0, .int .i64 0, .int .i64 0, .int .i64 0, .int .i64 0, .int .i64 0, .int .i64 0, .int .i64 0, .int .i64 0, .int .i64 0, .int .i64 0, .int .i64 0, .int .i64 0, .int .i64 0, .int .i64 0, .int .i64 0, .int .i64 0, .int .i64 0, .int .i64 0, .int .i64 0, .int .i64 0, .int .i64 0, .int .i64 0, .int .i64 0, .int .i64 0, .int .i64 0, .int .i64 0, .int .i64 0, .int .i64 0, .int .i64 0, .int .i64 0, .int .i64 0, .int .i64 0, .int .i64 0, .int .i64 0, .int .i64 0, .int .i64 0, .int .i64 0, .int .i64 0, .int .i64 0, .int .i64 0, .int .i64 0, .int .i64 0, .int .i64 0, .int .i64 0, .int .i64 0, .int .i64 0, .int .i64 0, .int .i64 0, .int .i64 0, .int .i64 0, .int .i64 0, .int .i64 0, .int .i64 0, .int .i64 0, .int .i64 0, .int .i64 0, .int .i64 0, .int .i64 0, .int .i64 0, .int .i64 0, .int .i64 0, .int .i64 0, .int .i64 0, .int .i64 0, .int .i64 0, .int .i64 0, .int .i64 0, .int .i64 0, .int .i64 0, .int .i64 0, .int .i64 0, .int .i64 0, .int .i64 0, .int .i64 0, .int .i64 0, .int .i64 0, .int .i64 0, .int .i64 0, .int .i64 0, .int .i64 0, .int .i64 0, .int .i64 0, .int .i64 0, .int .i64 0, .int .i64 0, .int .i64 0, .int .i64 0, .int .i64 0, .int .i64 0, .int .i64 0, .int .i64 0, .int .i64 0, .int .i64 0, .int .i64 0, .int .i64 0, .int .i64 0, .int .i64 0, .int .i64 0, .int .i64 0, .int .i64 0, .int .i64 0, .int .i64 0, .int .i64 0, .int .i64 0, .int .i64 0, .int .i64 0, .int .i64 0, .int .i64 0, .int .i64 0, .int .i64 0, .int .i64 0, .int .i64 0, .int .i64 0, .int .i64 0, .int .i64 0, .int .i64 0, .int .i64 0, .int .i64 0, .int .i64 0, .int .i64 0] [(0, 1, .c (.int .i64 13)), (1, 1, .c (.int .i64 23)), (2, 1, .c (.int .i64 28)), (3, 1, .c (.int .i64 28)), (4, 1, .c (.int .i64 28)), (5, 1, .c (.int .i64 28)), (6, 1, .c (.int .i64 28)), (7, 1, .c (.int .i64 28)), (8, 1, .c (.int .i64 28)), (9, 1, .c (.int .i64 24)), (10, 1, .c (.int .i64 30)), (11, 1, .c (.int .i64 28)), (12, 1, .c (.int .i64 28)), (13, 1, .c (.int .i64 30)), (14, 1, .c (.int .i64 28)), (15, 1, .c (.int .i64 28)), (16, 1, .c (.int .i64 28)), (17, 1, .c (.int .i64 28)), (18, 1, .c (.int .i64 28)), (19, 1, .c (.int .i64 28)), (20, 1, .c (.int .i64 28)), (21, 1, .c (.int .i64 28)), (22, 1, .c (.int .i64 30)), (23, 1, .c (.int .i64 28)), (24, 1, .c (.int .i64 28)), (25, 1, .c (.int .i64 28)), (26, 1, .c (.int .i64 28)), (27, 1, .c (.int .i64 28)), (28, 1, .c (.int .i64 28)), (29, 1, .c (.int .i64 28)), (30, 1, .c (.int .i64 28)), (31, 1, .c (.int .i64 28)), (32, 1, .c (.int .i64 6)), (33, 1, .c (.int .i64 10)), (34, 1, .c (.int .i64 10)), (35, 1, .c (.int .i64 12)), (36, 1, .c (.int .i64 13)), (37, 1, .c (.int .i64 6)), (38, 1, .c (.int .i64 8)), (39, 1, .c (.int .i64 11)), (40, 1, .c (.int .i64 10)), (41, 1, .c (.int .i64 10)), (42, 1, .c (.int .i64 8)), (43, 1, .c (.int .i64 11)), (44, 1, .c (.int .i64 8)), (45, 1, .c (.int .i64 6)), (46, 1, .c (.int .i64 6)), (47, 1, .c (.int .i64 6)), (48, 1, .c (.int .i64 5)), (49, 1, .c (.int .i64 5)), (50, 1, .c (.int .i64 5)), (51, 1, .c (.int .i64 6)), (52, 1, .c (.int .i64 6)), (53, 1, .c (.int .i64 6)), (54, 1, .c (.int .i64 6)), (55, 1, .c (.int .i64 6)), (56, 1, .c (.int .i64 6)), (57, 1, .c (.int .i64 6)), (58, 1, .c (.int .i64 7)), (59, 1, .c (.int .i64 8)), (60, 1, .c (.int .i64 15)), (61, 1, .c (.int .i64 6)), (62, 1, .c (.int .i64 12)), (63, 1, .c (.int .i64 10)), (64, 1, .c (.int .i64 13)), (65, 1, .c (.int .i64 6)), (66, 1, .c (.int .i64 7)), (67, 1, .c (.int .i64 7)), (68, 1, .c (.int .i64 7)), (69, 1, .c (.int .i64 7)), (70, 1, .c (.int .i64 7)), (71, 1, .c (.int .i64 7)), (72, 1, .c (.int .i64 7)), (73, 1, .c (.int .i64 7)), (74, 1, .c (.int .i64 7)), (75, 1, .c (.int .i64 7)), (76, 1, .c (.int .i64 7)), (77, 1, .c (.int .i64 7)), (78, 1, .c (.int .i64 7)), (79, 1, .c (.int .i64 7)), (80, 1, .c (.int .i64 7)), (81, 1, .c (.int .i64 7)), (82, 1, .c (.int .i64 7)), (83, 1, .c (.int .i64 7)), (84, 1, .c (.int .i64 7)), (85, 1, .c (.int .i64 7)), (86, 1, .c (.int .i64 7)), (87, 1, .c (.int .i64 7)), (88, 1, .c (.int .i64 8)), (89, 1, .c (.int .i64 7)), (90, 1, .c (.int .i64 8)), (91, 1, .c (.int .i64 13)), (92, 1, .c (.int .i64 19)), (93, 1, .c (.int .i64 13)), (94, 1, .c (.int .i64 14)), (95, 1, .c (.int .i64 6)), (96, 1, .c (.int .i64 15)), (97, 1, .c (.int .i64 5)), (98, 1, .c (.int .i64 6)), (99, 1, .c (.int .i64 5)), (100, 1, .c (.int .i64 6)), (101, 1, .c (.int .i64 5)), (102, 1, .c (.int .i64 6)), (103, 1, .c (.int .i64 6)), (104, 1, .c (.int .i64 6)), (105, 1, .c (.int .i64 5)), (106, 1, .c (.int .i64 7)), (107, 1, .c (.int .i64 7)), (108, 1, .c (.int .i64 6)), (109, 1, .c (.int .i64 6)), (110, 1, .c (.int .i64 6)), (111, 1, .c (.int .i64 5)), (112, 1, .c (.int .i64 6)), (113, 1, .c (.int .i64 7)), (114, 1, .c (.int .i64 6)), (115, 1, .c (.int .i64 5)), (116, 1, .c (.int .i64 5)), (117, 1, .c (.int .i64 6)), (118, 1, .c (.int .i64 7)), (119, 1, .c (.int .i64 7)), (120, 1, .c (.int .i64 7)), (121, 1, .c (.int .i64 7)), (122, 1, .c (.int .i64 7)), (123, 1, .c (.int .i64 15)), (124, 1, .c (.int .i64 11)), (125, 1, .c (.int .i64 14)), (126, 1, .c (.int .i64 13)), (127, 1, .c (.int .i64 28)), (128, 1, .c (.int .i64 20)), (129, 1, .c (.int .i64 22)), (130, 1, .c (.int .i64 20)), (131, 1, .c (.int .i64 20)), (132, 1, .c (.int .i64 22)), (133, 1, .c (.int .i64 22)), (134, 1, .c (.int .i64 22)), (135, 1, .c (.int .i64 23)), (136, 1, .c (.int .i64 22)), (137, 1, .c (.int .i64 23)), (138, 1, .c (.int .i64 23)), (139, 1, .c (.int .i64 23)), (140, 1, .c (.int .i64 23)), (141, 1, .c (.int .i64 23)), (142, 1, .c (.int .i64 24)), (143, 1, .c (.int .i64 23)), (144, 1, .c (.int .i64 24)), (145, 1, .c (.int .i64 24)), (146, 1, .c (.int .i64 22)), (147, 1, .c (.int .i64 23)), (148, 1, .c (.int .i64 24)), (149, 1, .c (.int .i64 23)), (150, 1, .c (.int .i64 23)), (151, 1, .c (.int .i64 23)), (152, 1, .c (.int .i64 23)), (153, 1, .c (.int .i64 21)), (154, 1, .c (.int .i64 22)), (155, 1, .c (.int .i64 23)), (156, 1, .c (.int .i64 22)), (157, 1, .c (.int .i64 23)), (158, 1, .c (.int .i64 23)), (159, 1, .c (.int .i64 24)), (160, 1, .c (.int .i64 22)), (161, 1, .c (.int .i64 21)), (162, 1, .c (.int .i64 20)), (163, 1, .c (.int .i64 22)), (164, 1, .c (.int .i64 22)), (165, 1, .c (.int .i64 23)), (166, 1, .c (.int .i64 23)), (167, 1, .c (.int .i64 21)), (168, 1, .c (.int .i64 23)), (169, 1, .c (.int .i64 22)), (170, 1, .c (.int .i64 22)), (171, 1, .c (.int .i64 24)), (172, 1, .c (.int .i64 21)), (173, 1, .c (.int .i64 22)), (174, 1, .c (.int .i64 23)), (175, 1, .c (.int .i64 23)), (176, 1, .c (.int .i64 21)), (177, 1, .c (.int .i64 21)), (178, 1, .c (.int .i64 22)), (179, 1, .c (.int .i64 21)), (180, 1, .c (.int .i64 23)), (181, 1, .c (.int .i64 22)), (182, 1, .c (.int .i64 23)), (183, 1, .c (.int .i64 23)), (184, 1, .c (.int .i64 20)), (185, 1, .c (.int .i64 22)), (186, 1, .c (.int .i64 22)), (187, 1, .c (.int .i64 22)), (188, 1, .c (.int .i64 23)), (189, 1, .c (.int .i64 22)), (190, 1, .c (.int .i64 22)), (191, 1, .c (.int .i64 23)), (192, 1, .c (.int .i64 26)), (193, 1, .c (.int .i64 26)), (194, 1, .c (.int .i64 20)), (195, 1, .c (.int .i64 19)), (196, 1, .c (.int .i64 22)), (197, 1, .c (.int .i64 23)), (198, 1, .c (.int .i64 22)), (199, 1, .c (.int .i64 25)), (200, 1, .c (.int .i64 26)), (201, 1, .c (.int .i64 26)), (202, 1, .c (.int .i64 26)), (203, 1, .c (.int .i64 27)), (204, 1, .c (.int .i64 27)), (205, 1, .c (.int .i64 26)), (206, 1, .c (.int .i64 24)), (207, 1, .c (.int .i64 25)), (208, 1, .c (.int .i64 19)), (209, 1, .c (.int .i64 21)), (210, 1, .c (.int .i64 26)), (211, 1, .c (.int .i64 27)), (212, 1, .c (.int .i64 27)), (213, 1, .c (.int .i64 26)), (214, 1, .c (.int .i64 27)), (215, 1, .c (.int .i64 24)), (216, 1, .c (.int .i64 21)), (217, 1, .c (.int .i64 21)), (218, 1, .c (.int .i64 26)), (219, 1, .c (.int .i64 26)), (220, 1, .c (.int .i64 28)), (221, 1, .c (.int .i64 27)), (222, 1, .c (.int .i64 27)), (223, 1, .c (.int .i64 27)), (224, 1, .c (.int .i64 20)), (225, 1, .c (.int .i64 24)), (226, 1, .c (.int .i64 20)), (227, 1, .c (.int .i64 21)), (228, 1, .c (.int .i64 22)), (229, 1, .c (.int .i64 21)), (230, 1, .c (.int .i64 21)), (231, 1, .c (.int .i64 23)), (232, 1, .c (.int .i64 22)), (233, 1, .c (.int .i64 22)), (234, 1, .c (.int .i64 25)), (235, 1, .c (.int .i64 25)), (236, 1, .c (.int .i64 24)), (237, 1, .c (.int .i64 24)), (238, 1, .c (.int .i64 26)), (239, 1, .c (.int .i64 23)), (240, 1, .c (.int .i64 26)), (241, 1, .c (.int .i64 27)), (242, 1, .c (.int .i64 26)), (243, 1, .c (.int .i64 26)), (244, 1, .c (.int .i64 27)), (245, 1, .c (.int .i64 27)), (246, 1, .c (.int .i64 27)), (247, 1, .c (.int .i64 27)), (248, 1, .c (.int .i64 27)), (249, 1, .c (.int .i64 28)), (250, 1, .c (.int .i64 27)), (251, 1, .c (.int .i64 27)), (252, 1, .c (.int .i64 27)), (253, 1, .c (.int .i64 27)), (254, 1, .c (.int .i64 27)), (255, 1, .c (.int .i64 26)), (256, 1, .c (.int .i64 30))]), none⟩,
      ⟨some 3, .op (.alloc [.int .i64 0, .int .i64 0, .int .i64 0, .int .i64 0, .int .i64 0, .int .i64 0, .int .i64 0, .int .i64 0, .int .i64 0, .int .i64 0, .int .i64 0, .int .i64 0, .int .i64 0, .int .i64 0, .int .i64 0, .int .i64 0, .int .i64 0, .int .i64 0, .int .i64 0, .int .i64 0, .int .i64 0, .int .i64 0, .int .i64 0, .int .i64 0, .int .i64 0, .int .i64 0, .int .i64 0, .int .i64 0, .int .i64 0, .int .i64 0, .int .i64 0, .int .i64 0, .int .i64 0, .int .i64 0, .int .i64 0, .int .i64 0, .int .i64 0, .int .i64 0, .int .i64 0, .int .i64 0, .int .i64 0, .int .i64 0, .int .i64 0, .int .i64 0, .int .i64 0, .int .i64 0, .int .i64 0, .int .i64 0, .int .i64 0, .int .i64 0, .int .i64 0, .int .i64 0, .int .i64 0, .int .i64 0, .int .i64 0, .int .i64 0, .int .i64 0, .int .i64 0, .int .i64 0, .int .i64 0, .int .i64 0, .int .i64 0, .int .i64 0, .int .i64 0, .int .i64 0, .int .i64 0, .int .i64 0, .int .i64 0, .int .i64 0, .int .i64 0, .int .i64 0, .int .i64 0, .int .i64 0, .int .i64 0, .int .i64 0, .int .i64 0, .int .i64 0, .int .i64 0, .int .i64 0, .int .i64 0, .int .i64 0, .int .i64 0, .int .i64 0, .int .i64 0, .int .i64 0, .int .i64 0, .int .i64 0, .int .i64 0, .int .i64 0, .int .i64 0, .int .i64 0, .int .i64 0, .int .i64 0, .int .i64 0, .int .i64 0, .int .i64 0, .int .i64 0, .int .i64 0, .int .i64 0, .int .i64 0, .int .i64 0, .int .i64 0, .int .i64 0, .int .i64 0, .int .i64 0, .int .i64 0, .int .i64 0, .int .i64 0, .int .i64 0, .int .i64 0, .int .i64 0, .int .i64 0, .int .i64 0, .int .i64 0, .int .i64 0, .int .i64 0, .int .i64 0, .int .i64 0, .int .i64 0, .int .i64 0, .int .i64 0, .int .i64 0, .int .i64 0, .int .i64 0, .int .i64 0, .int .i64 0, .int .i64 0, .int .i64 0, .int .i64 0, .int .i64 0, .int .i64 0, .int .i64 0, .int .i64 0, .int .i64 0, .int .i64 0, .int .i64 0, .int .i64 0, .int .i64 0, .int .i64 0, .int .i64 0, .int .i64 0, .int .i64 0, .int .i64 0, .int .i64 0, .int .i64 0, .int .i64 0, .int .i64 0, .int .i64 0, .int .i64 0, .int .i64 0, .int .i64 0, .int .i64 0, .int .i64 0, .int .i64 0, .int .i64 0, .int .i64 0, .int .i64 0, .int .i64 0, .int .i64 0, .int .i64 0, .int .i64 0, .int .i64 0, .int .i64 0, .int .i64 0, .int .i64 0, .int .i64 0, .int .i64 0, .int .i64 0, .int .i64 0, .int .i64 0, .int .i64 0, .int .i64 0, .int .i64 0, .int .i64 0, .int .i64 0, .int .i64 0, .int .i64 0, .int .i64 0, .int .i64 0, .int .i64 0, .int .i64 0, .int .i64 0, .int .i64 0, .int .i64 0, .int .i64 0, .int .i64 0, .int .i64 0, .int .i64 0, .int .i64 0, .int .i64 0, .int .i64 0, .int .i64 0, .int .i64 0, .int .i64 0, .int .i64 0, .int .i64 0, .int .i64 0, .int .i64 0, .int .i64 0, .int .i64 0, .int .i64 0, .int .i64 0, .int .i64 0, .int .i64 0, .int .i64 0, .int .i64 0, .int .i64 0, .int .i64 0, .int .i64 0, .int .i64 0, .int .i64 0, .int .i64 0, .int .i64 0, .int .i64 0, .int .i64 0, .int .i64 0, .int .i64 0, .int .i64 0, .int .i64 0, .int .i64 0, .int .i64 0, .int .i64 0, .int .i64 0, .int .i64 0, .int .i64 0, .int .i64 0, .int .i64 0, .int .i64 0, .int .i64 0, .int .i64 0, .int .i64 0, .int .i64 0, .int .i64 0, .int .i64 0, .int .i64 0, .int .i64 0, .int .i64 0, .int .i64 0, .int .i64 0, .int .i64 0, .int .i64 0, .int .i64 0, .int .i64 0, .int .i64 0, .int .i64 0, .int .i64 0, .int .i64 0, .int .i64 0, .int .i64 0, .int .i64 0, .int .i64 0, .int .i64 0, .int .i64 0, .int .i64 0, .int .i64 0, .int .i64 0, .int .i64 0]), none⟩,
      ⟨none, .op (.store 257 (.t 3) (.t 4)), none⟩] [0, 3])
  (.seq (.region [⟨some 5, .op (.mov (.t 0)), none⟩,
      ⟨some 6, .op (.idxAddrA 257 1 (.t 3) (.t 5)), none⟩,
      ⟨some 7, .op (.load1 (.t 6)), none⟩,
      ⟨some 2, .op (.mov (.t 7)), none⟩] [2])
  (.ret)))⟩

theorem lf97_ok : cFunc Try.prog Try.f97 [[0], [0, 3], [2]] = some lf97 := by kernel_rfl

/-- squint/squintref02.next -/
def lf98 : LFunc := ⟨26, [.tmp 2],
  .seq (.region [⟨some 2, .op (.mov (.c (.string ⟨#[]⟩))), none⟩] [0])
  (.seq (.region [⟨some 3, .op (.mov (.c (.string ⟨#[]⟩))), none⟩] [0, 3])
  (.seq (.region [⟨some 4, .op (.mov (.c (.bool true))), none⟩] [0, 3, 4])
  (.seq (.seq (.region [⟨some 7, .op (.mov (.t 0)), none⟩,
        ⟨some 8, .op (.lenStr (.t 7)), none⟩,
        ⟨some 9, .op (.bin .sub .basic (.t 8) (.c (.int .i64 1))), none⟩,
        ⟨some 5, .op (.mov (.t 9)), none⟩] [0, 3, 4, 5])
    (.block 0 (.loop (.seq (.seq (.region [⟨some 10, .op (.mov (.t 5)), none⟩,
              ⟨some 11, .op (.bin .geq .basic (.t 10) (.c (.int .i64 0))), none⟩] [0, 3, 4, 5, 11])
          (.cond (.t 11)
            (.skip)
            (.exit 0)))
        (.seq (.block 1 (.seq (.region [⟨some 14, .op (.mov (.t 0)), none⟩,
                ⟨some 15, .op (.mov (.t 5)), none⟩,
                ⟨some 16, .op (.idxStr (.t 14) (.t 15)), none⟩,
                ⟨some 6, .op (.mov (.t 16)), none⟩] [0, 3, 4, 5, 6])
            (.seq (.seq (.region [⟨some 17, .op (.mov (.t 4)), none⟩] [0, 3, 4, 5, 6, 17])
              (.cond (.t 17)
                (.seq (.region [⟨some 18, .op (.mov (.t 6)), none⟩,
                    ⟨some 19, .op (.bin .eql .basic (.t 18) (.c (.int .u8 48))), none⟩] [0, 3, 4, 5, 19])
                (.cond (.t 19)
                  (.seq (.region [⟨some 6, .op (.mov (.c (.int .u8 49))), none⟩] [0, 3, 5, 6])
                  (.region [⟨some 4, .op (.mov (.c (.bool false))), none⟩] [0, 3, 4, 5, 6]))
                  (.region [⟨some 6, .op (.mov (.c (.int .u8 48))), none⟩] [0, 3, 4, 5, 6])))
                (.skip)))
            (.region [⟨some 20, .op (.mov (.t 6)), none⟩,
              ⟨some 21, .op (.buildSlice 1 1 [.int .u8 0] [(0, 1, .t 20)]), none⟩,
              ⟨some 22, .op (.bytesStr (.t 21)), none⟩,
              ⟨some 23, .op (.mov (.t 3)), none⟩,
              ⟨some 24, .op (.bin .add .basic (.t 22) (.t 23)), none⟩,
              ⟨some 3, .op (.mov (.t 24)), none⟩] [0, 3, 4, 5]))))
        (.region [⟨some 12, .op (.mov (.t 5)), none⟩,
          ⟨some 13, .op (.bin .sub .basic (.t 12) (.c (.int .i64 1))), none⟩,
          ⟨some 5, .op (.mov (.t 13)), none⟩] [0, 3, 4, 5]))))))
  (.seq (.region [⟨some 25, .op (.mov (.t 3)), none⟩,
      ⟨some 2, .op (.mov (.t 25)), none⟩] [2])
  (.ret)))))⟩

theorem lf98_ok : cFunc Try.prog Try.f98 [[0], [0, 3], [0, 3, 4], [0, 3, 4, 5], [0, 3, 4, 5, 11], [0, 3, 4, 5, 6], [0, 3, 4, 5, 6, 17], [0, 3, 4, 5, 19], [0, 3, 5, 6], [0, 3, 4, 5, 6], [0, 3, 4, 5, 6], [0, 3, 4, 5], [0, 3, 4, 5], [2]] = some lf98 := by kernel_rfl

def tabC : List (FuncId × LFunc) := [(16, lf16), (24, lf24), (37, lf37), (49, lf49), (50, lf50), (51, lf51), (52, lf52), (53, lf53), (54, lf54), (60, lf60), (61, lf61), (62, lf62), (63, lf63), (75, lf75), (76, lf76), (77, lf77), (78, lf78), (84, lf84), (92, lf92), (95, lf95), (96, lf96), (97, lf97), (98, lf98)]

theorem tabC_ok : ∀ p ∈ tabC, ∃ fn ks nt, Try.prog.funcs[p.1]? = some fn ∧ cFunc Try.prog fn ks nt = some p.2 := by
  unfold tabC
  refine List.forall_mem_cons.2 ⟨⟨_, _, _, Try.func16, lf16_ok⟩, ?_⟩
  refine List.forall_mem_cons.2 ⟨⟨_, _, _, Try.func24, lf24_ok⟩, ?_⟩
  refine List.forall_mem_cons.2 ⟨⟨_, _, _, Try.func37, lf37_ok⟩, ?_⟩
  refine List.forall_mem_cons.2 ⟨⟨_, _, _, Try.func49, lf49_ok⟩, ?_⟩
  refine List.forall_mem_cons.2 ⟨⟨_, _, _, Try.func50, lf50_ok⟩, ?_⟩
  refine List.forall_mem_cons.2 ⟨⟨_, _, _, Try.func51, lf51_ok⟩, ?_⟩
  refine List.forall_mem_cons.2 ⟨⟨_, _, _, Try.func52, lf52_ok⟩, ?_⟩
  refine List.forall_mem_cons.2 ⟨⟨_, _, _, Try.func53, lf53_ok⟩, ?_⟩
  refine List.forall_mem_cons.2 ⟨⟨_, _, _, Try.func54, lf54_ok⟩, ?_⟩
  refine List.forall_mem_cons.2 ⟨⟨_, _, _, Try.func60, lf60_ok⟩, ?_⟩
  refine List.forall_mem_cons.2 ⟨⟨_, _, _, Try.func61, lf61_ok⟩, ?_⟩
  refine List.forall_mem_cons.2 ⟨⟨_, _, _, Try.func62, lf62_ok⟩, ?_⟩
  refine List.forall_mem_cons.2 ⟨⟨_, _, _, Try.func63, lf63_ok⟩, ?_⟩
  refine List.forall_mem_cons.2 ⟨⟨_, _, _, Try.func75, lf75_ok⟩, ?_⟩
  refine List.forall_mem_cons.2 ⟨⟨_, _, _, Try.func76, lf76_ok⟩, ?_⟩
  refine List.forall_mem_cons.2 ⟨⟨_, _, _, Try.func77, lf77_ok⟩, ?_⟩
  refine List.forall_mem_cons.2 ⟨⟨_, _, _, Try.func78, lf78_ok⟩, ?_⟩
  refine List.forall_mem_cons.2 ⟨⟨_, _, _, Try.func84, lf84_ok⟩, ?_⟩
  refine List.forall_mem_cons.2 ⟨⟨_, _, _, Try.func92, lf92_ok⟩, ?_⟩
  refine List.forall_mem_cons.2 ⟨⟨_, _, _, Try.func95, lf95_ok⟩, ?_⟩
  refine List.forall_mem_cons.2 ⟨⟨_, _, _, Try.func96, lf96_ok⟩, ?_⟩
  refine List.forall_mem_cons.2 ⟨⟨_, _, _, Try.func97, lf97_ok⟩, ?_⟩
  refine List.forall_mem_cons.2 ⟨⟨_, _, _, Try.func98, lf98_ok⟩, ?_⟩
  intro p hp; cases hp

end Go.E1
