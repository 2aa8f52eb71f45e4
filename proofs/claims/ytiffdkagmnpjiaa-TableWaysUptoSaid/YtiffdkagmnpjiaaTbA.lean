/-
  The rows of the table as plain data; the program's, sorted by their names, are the document's. Conditions: none.
-/
import Derived.Test.YtiffdkagmnpjiaaMem
import Derived.Sort.LotA
set_option maxRecDepth 100000
set_option linter.unusedSimpArgs false
set_option linter.unusedVariables false
namespace Go.Proofs.Ytiffdkagmnpjiaa.TbA
open Go Go.RowKit Go.Proofs.Ytiffdkagmnpjiaa.Mem

/-- A row. -/
structure Sp where
  name : ByteArray
  ar : Int
  wr : Bool
  ct : Bool
  fi : Int
  la : Int
  st : Int
instance : Inhabited Sp := ⟨⟨⟨#[]⟩, 0, false, false, 0, 0, 0⟩⟩
def spV (x : Sp) : List Value := [.string x.name, .int .i64 x.ar, .bool x.wr, .bool x.ct, .int .i64 x.fi, .int .i64 x.la, .int .i64 x.st]
def controlL : List Sp := [⟨⟨#[100, 105, 115, 99, 97, 114, 100]⟩, 1, false, true, 0, 0, 0⟩,
  ⟨⟨#[101, 120, 101, 99]⟩, 1, false, true, 0, 0, 0⟩,
  ⟨⟨#[109, 117, 108, 116, 105]⟩, 1, false, true, 0, 0, 0⟩,
  ⟨⟨#[113, 117, 105, 116]⟩, 1, false, true, 0, 0, 0⟩,
  ⟨⟨#[114, 101, 115, 101, 116]⟩, 1, false, true, 0, 0, 0⟩,
  ⟨⟨#[117, 110, 119, 97, 116, 99, 104]⟩, 1, false, true, 0, 0, 0⟩,
  ⟨⟨#[119, 97, 116, 99, 104]⟩, -2, false, true, 1, -1, 1⟩]
def textsL : List Sp := [⟨⟨#[97, 112, 112, 101, 110, 100]⟩, 3, true, false, 1, 1, 1⟩,
  ⟨⟨#[98, 105, 116, 99, 111, 117, 110, 116]⟩, -2, false, false, 1, 1, 1⟩,
  ⟨⟨#[98, 105, 116, 111, 112]⟩, -4, true, false, 2, -1, 1⟩,
  ⟨⟨#[98, 105, 116, 112, 111, 115]⟩, -3, false, false, 1, 1, 1⟩,
  ⟨⟨#[100, 101, 99, 114]⟩, 2, true, false, 1, 1, 1⟩,
  ⟨⟨#[100, 101, 99, 114, 98, 121]⟩, 3, true, false, 1, 1, 1⟩,
  ⟨⟨#[103, 101, 116]⟩, 2, false, false, 1, 1, 1⟩,
  ⟨⟨#[103, 101, 116, 98, 105, 116]⟩, 3, false, false, 1, 1, 1⟩,
  ⟨⟨#[103, 101, 116, 100, 101, 108]⟩, 2, true, false, 1, 1, 1⟩,
  ⟨⟨#[103, 101, 116, 101, 120]⟩, -2, true, false, 1, 1, 1⟩,
  ⟨⟨#[103, 101, 116, 114, 97, 110, 103, 101]⟩, 4, false, false, 1, 1, 1⟩,
  ⟨⟨#[103, 101, 116, 115, 101, 116]⟩, 3, true, false, 1, 1, 1⟩,
  ⟨⟨#[105, 110, 99, 114]⟩, 2, true, false, 1, 1, 1⟩,
  ⟨⟨#[105, 110, 99, 114, 98, 121]⟩, 3, true, false, 1, 1, 1⟩,
  ⟨⟨#[109, 103, 101, 116]⟩, -2, false, false, 1, -1, 1⟩,
  ⟨⟨#[109, 115, 101, 116]⟩, -3, true, false, 1, -1, 2⟩,
  ⟨⟨#[109, 115, 101, 116, 110, 120]⟩, -3, true, false, 1, -1, 2⟩,
  ⟨⟨#[112, 115, 101, 116, 101, 120]⟩, 4, true, false, 1, 1, 1⟩,
  ⟨⟨#[115, 101, 116]⟩, -3, true, false, 1, 1, 1⟩,
  ⟨⟨#[115, 101, 116, 98, 105, 116]⟩, 4, true, false, 1, 1, 1⟩,
  ⟨⟨#[115, 101, 116, 101, 120]⟩, 4, true, false, 1, 1, 1⟩,
  ⟨⟨#[115, 101, 116, 110, 120]⟩, 3, true, false, 1, 1, 1⟩,
  ⟨⟨#[115, 101, 116, 114, 97, 110, 103, 101]⟩, 4, true, false, 1, 1, 1⟩,
  ⟨⟨#[115, 116, 114, 108, 101, 110]⟩, 2, false, false, 1, 1, 1⟩]
def keysL : List Sp := [⟨⟨#[99, 111, 112, 121]⟩, -3, true, false, 1, 2, 1⟩,
  ⟨⟨#[100, 98, 115, 105, 122, 101]⟩, 1, false, false, 0, 0, 0⟩,
  ⟨⟨#[100, 101, 108]⟩, -2, true, false, 1, -1, 1⟩,
  ⟨⟨#[100, 117, 109, 112]⟩, 2, false, false, 1, 1, 1⟩,
  ⟨⟨#[101, 99, 104, 111]⟩, 2, false, false, 0, 0, 0⟩,
  ⟨⟨#[101, 120, 105, 115, 116, 115]⟩, -2, false, false, 1, -1, 1⟩,
  ⟨⟨#[101, 120, 112, 105, 114, 101]⟩, -3, true, false, 1, 1, 1⟩,
  ⟨⟨#[101, 120, 112, 105, 114, 101, 97, 116]⟩, -3, true, false, 1, 1, 1⟩,
  ⟨⟨#[101, 120, 112, 105, 114, 101, 116, 105, 109, 101]⟩, 2, false, false, 1, 1, 1⟩,
  ⟨⟨#[102, 108, 117, 115, 104, 97, 108, 108]⟩, 1, true, false, 0, 0, 0⟩,
  ⟨⟨#[102, 108, 117, 115, 104, 100, 98]⟩, 1, true, false, 0, 0, 0⟩,
  ⟨⟨#[107, 101, 121, 115]⟩, 2, false, false, 0, 0, 0⟩,
  ⟨⟨#[112, 101, 114, 115, 105, 115, 116]⟩, 2, true, false, 1, 1, 1⟩,
  ⟨⟨#[112, 101, 120, 112, 105, 114, 101]⟩, -3, true, false, 1, 1, 1⟩,
  ⟨⟨#[112, 101, 120, 112, 105, 114, 101, 97, 116]⟩, -3, true, false, 1, 1, 1⟩,
  ⟨⟨#[112, 101, 120, 112, 105, 114, 101, 116, 105, 109, 101]⟩, 2, false, false, 1, 1, 1⟩,
  ⟨⟨#[112, 105, 110, 103]⟩, -1, false, false, 0, 0, 0⟩,
  ⟨⟨#[112, 116, 116, 108]⟩, 2, false, false, 1, 1, 1⟩,
  ⟨⟨#[114, 101, 110, 97, 109, 101]⟩, 3, true, false, 1, 2, 1⟩,
  ⟨⟨#[114, 101, 110, 97, 109, 101, 110, 120]⟩, 3, true, false, 1, 2, 1⟩,
  ⟨⟨#[114, 101, 115, 116, 111, 114, 101]⟩, -4, true, false, 1, 1, 1⟩,
  ⟨⟨#[115, 99, 97, 110]⟩, -2, false, false, 0, 0, 0⟩,
  ⟨⟨#[116, 116, 108]⟩, 2, false, false, 1, 1, 1⟩,
  ⟨⟨#[116, 121, 112, 101]⟩, 2, false, false, 1, 1, 1⟩,
  ⟨⟨#[117, 110, 108, 105, 110, 107]⟩, -2, true, false, 1, -1, 1⟩]
def listsL : List Sp := [⟨⟨#[108, 105, 110, 100, 101, 120]⟩, 3, false, false, 1, 1, 1⟩,
  ⟨⟨#[108, 105, 110, 115, 101, 114, 116]⟩, 5, true, false, 1, 1, 1⟩,
  ⟨⟨#[108, 108, 101, 110]⟩, 2, false, false, 1, 1, 1⟩,
  ⟨⟨#[108, 109, 111, 118, 101]⟩, 5, true, false, 1, 2, 1⟩,
  ⟨⟨#[108, 112, 111, 112]⟩, -2, true, false, 1, 1, 1⟩,
  ⟨⟨#[108, 112, 111, 115]⟩, -3, false, false, 1, 1, 1⟩,
  ⟨⟨#[108, 112, 117, 115, 104]⟩, -3, true, false, 1, 1, 1⟩,
  ⟨⟨#[108, 112, 117, 115, 104, 120]⟩, -3, true, false, 1, 1, 1⟩,
  ⟨⟨#[108, 114, 97, 110, 103, 101]⟩, 4, false, false, 1, 1, 1⟩,
  ⟨⟨#[108, 114, 101, 109]⟩, 4, true, false, 1, 1, 1⟩,
  ⟨⟨#[108, 115, 101, 116]⟩, 4, true, false, 1, 1, 1⟩,
  ⟨⟨#[108, 116, 114, 105, 109]⟩, 4, true, false, 1, 1, 1⟩,
  ⟨⟨#[114, 112, 111, 112]⟩, -2, true, false, 1, 1, 1⟩,
  ⟨⟨#[114, 112, 111, 112, 108, 112, 117, 115, 104]⟩, 3, true, false, 1, 2, 1⟩,
  ⟨⟨#[114, 112, 117, 115, 104]⟩, -3, true, false, 1, 1, 1⟩,
  ⟨⟨#[114, 112, 117, 115, 104, 120]⟩, -3, true, false, 1, 1, 1⟩]
def hashesL : List Sp := [⟨⟨#[104, 100, 101, 108]⟩, -3, true, false, 1, 1, 1⟩,
  ⟨⟨#[104, 101, 120, 105, 115, 116, 115]⟩, 3, false, false, 1, 1, 1⟩,
  ⟨⟨#[104, 103, 101, 116]⟩, 3, false, false, 1, 1, 1⟩,
  ⟨⟨#[104, 103, 101, 116, 97, 108, 108]⟩, 2, false, false, 1, 1, 1⟩,
  ⟨⟨#[104, 105, 110, 99, 114, 98, 121]⟩, 4, true, false, 1, 1, 1⟩,
  ⟨⟨#[104, 107, 101, 121, 115]⟩, 2, false, false, 1, 1, 1⟩,
  ⟨⟨#[104, 108, 101, 110]⟩, 2, false, false, 1, 1, 1⟩,
  ⟨⟨#[104, 109, 103, 101, 116]⟩, -3, false, false, 1, 1, 1⟩,
  ⟨⟨#[104, 109, 115, 101, 116]⟩, -4, true, false, 1, 1, 1⟩,
  ⟨⟨#[104, 115, 99, 97, 110]⟩, -3, false, false, 1, 1, 1⟩,
  ⟨⟨#[104, 115, 101, 116]⟩, -4, true, false, 1, 1, 1⟩,
  ⟨⟨#[104, 115, 101, 116, 110, 120]⟩, 4, true, false, 1, 1, 1⟩,
  ⟨⟨#[104, 115, 116, 114, 108, 101, 110]⟩, 3, false, false, 1, 1, 1⟩,
  ⟨⟨#[104, 118, 97, 108, 115]⟩, 2, false, false, 1, 1, 1⟩]
def setsL : List Sp := [⟨⟨#[115, 97, 100, 100]⟩, -3, true, false, 1, 1, 1⟩,
  ⟨⟨#[115, 99, 97, 114, 100]⟩, 2, false, false, 1, 1, 1⟩,
  ⟨⟨#[115, 100, 105, 102, 102]⟩, -2, false, false, 1, -1, 1⟩,
  ⟨⟨#[115, 100, 105, 102, 102, 115, 116, 111, 114, 101]⟩, -3, true, false, 1, -1, 1⟩,
  ⟨⟨#[115, 105, 110, 116, 101, 114]⟩, -2, false, false, 1, -1, 1⟩,
  ⟨⟨#[115, 105, 110, 116, 101, 114, 115, 116, 111, 114, 101]⟩, -3, true, false, 1, -1, 1⟩,
  ⟨⟨#[115, 105, 115, 109, 101, 109, 98, 101, 114]⟩, 3, false, false, 1, 1, 1⟩,
  ⟨⟨#[115, 109, 101, 109, 98, 101, 114, 115]⟩, 2, false, false, 1, 1, 1⟩,
  ⟨⟨#[115, 109, 105, 115, 109, 101, 109, 98, 101, 114]⟩, -3, false, false, 1, 1, 1⟩,
  ⟨⟨#[115, 109, 111, 118, 101]⟩, 4, true, false, 1, 2, 1⟩,
  ⟨⟨#[115, 112, 111, 112]⟩, -2, true, false, 1, 1, 1⟩,
  ⟨⟨#[115, 114, 101, 109]⟩, -3, true, false, 1, 1, 1⟩,
  ⟨⟨#[115, 115, 99, 97, 110]⟩, -3, false, false, 1, 1, 1⟩,
  ⟨⟨#[115, 117, 110, 105, 111, 110]⟩, -2, false, false, 1, -1, 1⟩,
  ⟨⟨#[115, 117, 110, 105, 111, 110, 115, 116, 111, 114, 101]⟩, -3, true, false, 1, -1, 1⟩]
def ranksL : List Sp := [⟨⟨#[122, 97, 100, 100]⟩, -4, true, false, 1, 1, 1⟩,
  ⟨⟨#[122, 99, 97, 114, 100]⟩, 2, false, false, 1, 1, 1⟩,
  ⟨⟨#[122, 99, 111, 117, 110, 116]⟩, 4, false, false, 1, 1, 1⟩,
  ⟨⟨#[122, 105, 110, 99, 114, 98, 121]⟩, 4, true, false, 1, 1, 1⟩,
  ⟨⟨#[122, 108, 101, 120, 99, 111, 117, 110, 116]⟩, 4, false, false, 1, 1, 1⟩,
  ⟨⟨#[122, 109, 115, 99, 111, 114, 101]⟩, -3, false, false, 1, 1, 1⟩,
  ⟨⟨#[122, 112, 111, 112, 109, 97, 120]⟩, -2, true, false, 1, 1, 1⟩,
  ⟨⟨#[122, 112, 111, 112, 109, 105, 110]⟩, -2, true, false, 1, 1, 1⟩,
  ⟨⟨#[122, 114, 97, 110, 103, 101]⟩, -4, false, false, 1, 1, 1⟩,
  ⟨⟨#[122, 114, 97, 110, 107]⟩, 3, false, false, 1, 1, 1⟩,
  ⟨⟨#[122, 114, 101, 109]⟩, -3, true, false, 1, 1, 1⟩,
  ⟨⟨#[122, 114, 101, 109, 114, 97, 110, 103, 101, 98, 121, 108, 101, 120]⟩, 4, true, false, 1, 1, 1⟩,
  ⟨⟨#[122, 114, 101, 109, 114, 97, 110, 103, 101, 98, 121, 114, 97, 110, 107]⟩, 4, true, false, 1, 1, 1⟩,
  ⟨⟨#[122, 114, 101, 109, 114, 97, 110, 103, 101, 98, 121, 115, 99, 111, 114, 101]⟩, 4, true, false, 1, 1, 1⟩,
  ⟨⟨#[122, 114, 101, 118, 114, 97, 110, 107]⟩, 3, false, false, 1, 1, 1⟩,
  ⟨⟨#[122, 115, 99, 97, 110]⟩, -3, false, false, 1, 1, 1⟩,
  ⟨⟨#[122, 115, 99, 111, 114, 101]⟩, 3, false, false, 1, 1, 1⟩]
def allL : List Sp := controlL ++ textsL ++ keysL ++ listsL ++ hashesL ++ setsL ++ ranksL
def rowsL : List Sp := [⟨⟨#[97, 112, 112, 101, 110, 100]⟩, 3, true, false, 1, 1, 1⟩,
  ⟨⟨#[98, 105, 116, 99, 111, 117, 110, 116]⟩, -2, false, false, 1, 1, 1⟩,
  ⟨⟨#[98, 105, 116, 111, 112]⟩, -4, true, false, 2, -1, 1⟩,
  ⟨⟨#[98, 105, 116, 112, 111, 115]⟩, -3, false, false, 1, 1, 1⟩,
  ⟨⟨#[99, 111, 112, 121]⟩, -3, true, false, 1, 2, 1⟩,
  ⟨⟨#[100, 98, 115, 105, 122, 101]⟩, 1, false, false, 0, 0, 0⟩,
  ⟨⟨#[100, 101, 99, 114]⟩, 2, true, false, 1, 1, 1⟩,
  ⟨⟨#[100, 101, 99, 114, 98, 121]⟩, 3, true, false, 1, 1, 1⟩,
  ⟨⟨#[100, 101, 108]⟩, -2, true, false, 1, -1, 1⟩,
  ⟨⟨#[100, 105, 115, 99, 97, 114, 100]⟩, 1, false, true, 0, 0, 0⟩,
  ⟨⟨#[100, 117, 109, 112]⟩, 2, false, false, 1, 1, 1⟩,
  ⟨⟨#[101, 99, 104, 111]⟩, 2, false, false, 0, 0, 0⟩,
  ⟨⟨#[101, 120, 101, 99]⟩, 1, false, true, 0, 0, 0⟩,
  ⟨⟨#[101, 120, 105, 115, 116, 115]⟩, -2, false, false, 1, -1, 1⟩,
  ⟨⟨#[101, 120, 112, 105, 114, 101]⟩, -3, true, false, 1, 1, 1⟩,
  ⟨⟨#[101, 120, 112, 105, 114, 101, 97, 116]⟩, -3, true, false, 1, 1, 1⟩,
  ⟨⟨#[101, 120, 112, 105, 114, 101, 116, 105, 109, 101]⟩, 2, false, false, 1, 1, 1⟩,
  ⟨⟨#[102, 108, 117, 115, 104, 97, 108, 108]⟩, 1, true, false, 0, 0, 0⟩,
  ⟨⟨#[102, 108, 117, 115, 104, 100, 98]⟩, 1, true, false, 0, 0, 0⟩,
  ⟨⟨#[103, 101, 116]⟩, 2, false, false, 1, 1, 1⟩,
  ⟨⟨#[103, 101, 116, 98, 105, 116]⟩, 3, false, false, 1, 1, 1⟩,
  ⟨⟨#[103, 101, 116, 100, 101, 108]⟩, 2, true, false, 1, 1, 1⟩,
  ⟨⟨#[103, 101, 116, 101, 120]⟩, -2, true, false, 1, 1, 1⟩,
  ⟨⟨#[103, 101, 116, 114, 97, 110, 103, 101]⟩, 4, false, false, 1, 1, 1⟩,
  ⟨⟨#[103, 101, 116, 115, 101, 116]⟩, 3, true, false, 1, 1, 1⟩,
  ⟨⟨#[104, 100, 101, 108]⟩, -3, true, false, 1, 1, 1⟩,
  ⟨⟨#[104, 101, 120, 105, 115, 116, 115]⟩, 3, false, false, 1, 1, 1⟩,
  ⟨⟨#[104, 103, 101, 116]⟩, 3, false, false, 1, 1, 1⟩,
  ⟨⟨#[104, 103, 101, 116, 97, 108, 108]⟩, 2, false, false, 1, 1, 1⟩,
  ⟨⟨#[104, 105, 110, 99, 114, 98, 121]⟩, 4, true, false, 1, 1, 1⟩,
  ⟨⟨#[104, 107, 101, 121, 115]⟩, 2, false, false, 1, 1, 1⟩,
  ⟨⟨#[104, 108, 101, 110]⟩, 2, false, false, 1, 1, 1⟩,
  ⟨⟨#[104, 109, 103, 101, 116]⟩, -3, false, false, 1, 1, 1⟩,
  ⟨⟨#[104, 109, 115, 101, 116]⟩, -4, true, false, 1, 1, 1⟩,
  ⟨⟨#[104, 115, 99, 97, 110]⟩, -3, false, false, 1, 1, 1⟩,
  ⟨⟨#[104, 115, 101, 116]⟩, -4, true, false, 1, 1, 1⟩,
  ⟨⟨#[104, 115, 101, 116, 110, 120]⟩, 4, true, false, 1, 1, 1⟩,
  ⟨⟨#[104, 115, 116, 114, 108, 101, 110]⟩, 3, false, false, 1, 1, 1⟩,
  ⟨⟨#[104, 118, 97, 108, 115]⟩, 2, false, false, 1, 1, 1⟩,
  ⟨⟨#[105, 110, 99, 114]⟩, 2, true, false, 1, 1, 1⟩,
  ⟨⟨#[105, 110, 99, 114, 98, 121]⟩, 3, true, false, 1, 1, 1⟩,
  ⟨⟨#[107, 101, 121, 115]⟩, 2, false, false, 0, 0, 0⟩,
  ⟨⟨#[108, 105, 110, 100, 101, 120]⟩, 3, false, false, 1, 1, 1⟩,
  ⟨⟨#[108, 105, 110, 115, 101, 114, 116]⟩, 5, true, false, 1, 1, 1⟩,
  ⟨⟨#[108, 108, 101, 110]⟩, 2, false, false, 1, 1, 1⟩,
  ⟨⟨#[108, 109, 111, 118, 101]⟩, 5, true, false, 1, 2, 1⟩,
  ⟨⟨#[108, 112, 111, 112]⟩, -2, true, false, 1, 1, 1⟩,
  ⟨⟨#[108, 112, 111, 115]⟩, -3, false, false, 1, 1, 1⟩,
  ⟨⟨#[108, 112, 117, 115, 104]⟩, -3, true, false, 1, 1, 1⟩,
  ⟨⟨#[108, 112, 117, 115, 104, 120]⟩, -3, true, false, 1, 1, 1⟩,
  ⟨⟨#[108, 114, 97, 110, 103, 101]⟩, 4, false, false, 1, 1, 1⟩,
  ⟨⟨#[108, 114, 101, 109]⟩, 4, true, false, 1, 1, 1⟩,
  ⟨⟨#[108, 115, 101, 116]⟩, 4, true, false, 1, 1, 1⟩,
  ⟨⟨#[108, 116, 114, 105, 109]⟩, 4, true, false, 1, 1, 1⟩,
  ⟨⟨#[109, 103, 101, 116]⟩, -2, false, false, 1, -1, 1⟩,
  ⟨⟨#[109, 115, 101, 116]⟩, -3, true, false, 1, -1, 2⟩,
  ⟨⟨#[109, 115, 101, 116, 110, 120]⟩, -3, true, false, 1, -1, 2⟩,
  ⟨⟨#[109, 117, 108, 116, 105]⟩, 1, false, true, 0, 0, 0⟩,
  ⟨⟨#[112, 101, 114, 115, 105, 115, 116]⟩, 2, true, false, 1, 1, 1⟩,
  ⟨⟨#[112, 101, 120, 112, 105, 114, 101]⟩, -3, true, false, 1, 1, 1⟩,
  ⟨⟨#[112, 101, 120, 112, 105, 114, 101, 97, 116]⟩, -3, true, false, 1, 1, 1⟩,
  ⟨⟨#[112, 101, 120, 112, 105, 114, 101, 116, 105, 109, 101]⟩, 2, false, false, 1, 1, 1⟩,
  ⟨⟨#[112, 105, 110, 103]⟩, -1, false, false, 0, 0, 0⟩,
  ⟨⟨#[112, 115, 101, 116, 101, 120]⟩, 4, true, false, 1, 1, 1⟩,
  ⟨⟨#[112, 116, 116, 108]⟩, 2, false, false, 1, 1, 1⟩,
  ⟨⟨#[113, 117, 105, 116]⟩, 1, false, true, 0, 0, 0⟩,
  ⟨⟨#[114, 101, 110, 97, 109, 101]⟩, 3, true, false, 1, 2, 1⟩,
  ⟨⟨#[114, 101, 110, 97, 109, 101, 110, 120]⟩, 3, true, false, 1, 2, 1⟩,
  ⟨⟨#[114, 101, 115, 101, 116]⟩, 1, false, true, 0, 0, 0⟩,
  ⟨⟨#[114, 101, 115, 116, 111, 114, 101]⟩, -4, true, false, 1, 1, 1⟩,
  ⟨⟨#[114, 112, 111, 112]⟩, -2, true, false, 1, 1, 1⟩,
  ⟨⟨#[114, 112, 111, 112, 108, 112, 117, 115, 104]⟩, 3, true, false, 1, 2, 1⟩,
  ⟨⟨#[114, 112, 117, 115, 104]⟩, -3, true, false, 1, 1, 1⟩,
  ⟨⟨#[114, 112, 117, 115, 104, 120]⟩, -3, true, false, 1, 1, 1⟩,
  ⟨⟨#[115, 97, 100, 100]⟩, -3, true, false, 1, 1, 1⟩,
  ⟨⟨#[115, 99, 97, 110]⟩, -2, false, false, 0, 0, 0⟩,
  ⟨⟨#[115, 99, 97, 114, 100]⟩, 2, false, false, 1, 1, 1⟩,
  ⟨⟨#[115, 100, 105, 102, 102]⟩, -2, false, false, 1, -1, 1⟩,
  ⟨⟨#[115, 100, 105, 102, 102, 115, 116, 111, 114, 101]⟩, -3, true, false, 1, -1, 1⟩,
  ⟨⟨#[115, 101, 116]⟩, -3, true, false, 1, 1, 1⟩,
  ⟨⟨#[115, 101, 116, 98, 105, 116]⟩, 4, true, false, 1, 1, 1⟩,
  ⟨⟨#[115, 101, 116, 101, 120]⟩, 4, true, false, 1, 1, 1⟩,
  ⟨⟨#[115, 101, 116, 110, 120]⟩, 3, true, false, 1, 1, 1⟩,
  ⟨⟨#[115, 101, 116, 114, 97, 110, 103, 101]⟩, 4, true, false, 1, 1, 1⟩,
  ⟨⟨#[115, 105, 110, 116, 101, 114]⟩, -2, false, false, 1, -1, 1⟩,
  ⟨⟨#[115, 105, 110, 116, 101, 114, 115, 116, 111, 114, 101]⟩, -3, true, false, 1, -1, 1⟩,
  ⟨⟨#[115, 105, 115, 109, 101, 109, 98, 101, 114]⟩, 3, false, false, 1, 1, 1⟩,
  ⟨⟨#[115, 109, 101, 109, 98, 101, 114, 115]⟩, 2, false, false, 1, 1, 1⟩,
  ⟨⟨#[115, 109, 105, 115, 109, 101, 109, 98, 101, 114]⟩, -3, false, false, 1, 1, 1⟩,
  ⟨⟨#[115, 109, 111, 118, 101]⟩, 4, true, false, 1, 2, 1⟩,
  ⟨⟨#[115, 112, 111, 112]⟩, -2, true, false, 1, 1, 1⟩,
  ⟨⟨#[115, 114, 101, 109]⟩, -3, true, false, 1, 1, 1⟩,
  ⟨⟨#[115, 115, 99, 97, 110]⟩, -3, false, false, 1, 1, 1⟩,
  ⟨⟨#[115, 116, 114, 108, 101, 110]⟩, 2, false, false, 1, 1, 1⟩,
  ⟨⟨#[115, 117, 110, 105, 111, 110]⟩, -2, false, false, 1, -1, 1⟩,
  ⟨⟨#[115, 117, 110, 105, 111, 110, 115, 116, 111, 114, 101]⟩, -3, true, false, 1, -1, 1⟩,
  ⟨⟨#[116, 116, 108]⟩, 2, false, false, 1, 1, 1⟩,
  ⟨⟨#[116, 121, 112, 101]⟩, 2, false, false, 1, 1, 1⟩,
  ⟨⟨#[117, 110, 108, 105, 110, 107]⟩, -2, true, false, 1, -1, 1⟩,
  ⟨⟨#[117, 110, 119, 97, 116, 99, 104]⟩, 1, false, true, 0, 0, 0⟩,
  ⟨⟨#[119, 97, 116, 99, 104]⟩, -2, false, true, 1, -1, 1⟩,
  ⟨⟨#[122, 97, 100, 100]⟩, -4, true, false, 1, 1, 1⟩,
  ⟨⟨#[122, 99, 97, 114, 100]⟩, 2, false, false, 1, 1, 1⟩,
  ⟨⟨#[122, 99, 111, 117, 110, 116]⟩, 4, false, false, 1, 1, 1⟩,
  ⟨⟨#[122, 105, 110, 99, 114, 98, 121]⟩, 4, true, false, 1, 1, 1⟩,
  ⟨⟨#[122, 108, 101, 120, 99, 111, 117, 110, 116]⟩, 4, false, false, 1, 1, 1⟩,
  ⟨⟨#[122, 109, 115, 99, 111, 114, 101]⟩, -3, false, false, 1, 1, 1⟩,
  ⟨⟨#[122, 112, 111, 112, 109, 97, 120]⟩, -2, true, false, 1, 1, 1⟩,
  ⟨⟨#[122, 112, 111, 112, 109, 105, 110]⟩, -2, true, false, 1, 1, 1⟩,
  ⟨⟨#[122, 114, 97, 110, 103, 101]⟩, -4, false, false, 1, 1, 1⟩,
  ⟨⟨#[122, 114, 97, 110, 107]⟩, 3, false, false, 1, 1, 1⟩,
  ⟨⟨#[122, 114, 101, 109]⟩, -3, true, false, 1, 1, 1⟩,
  ⟨⟨#[122, 114, 101, 109, 114, 97, 110, 103, 101, 98, 121, 108, 101, 120]⟩, 4, true, false, 1, 1, 1⟩,
  ⟨⟨#[122, 114, 101, 109, 114, 97, 110, 103, 101, 98, 121, 114, 97, 110, 107]⟩, 4, true, false, 1, 1, 1⟩,
  ⟨⟨#[122, 114, 101, 109, 114, 97, 110, 103, 101, 98, 121, 115, 99, 111, 114, 101]⟩, 4, true, false, 1, 1, 1⟩,
  ⟨⟨#[122, 114, 101, 118, 114, 97, 110, 107]⟩, 3, false, false, 1, 1, 1⟩,
  ⟨⟨#[122, 115, 99, 97, 110]⟩, -3, false, false, 1, 1, 1⟩,
  ⟨⟨#[122, 115, 99, 111, 114, 101]⟩, 3, false, false, 1, 1, 1⟩]
def idx : List Nat := [9, 12, 57, 65, 68, 99, 100, 0, 1, 2, 3, 6, 7, 19, 20, 21, 22, 23, 24, 39, 40, 54, 55, 56, 63, 79, 80, 81, 82, 83, 93, 4, 5, 8, 10, 11, 13, 14, 15, 16, 17, 18, 41, 58, 59, 60, 61, 62, 64, 66, 67, 69, 75, 96, 97, 98, 42, 43, 44, 45, 46, 47, 48, 49, 50, 51, 52, 53, 70, 71, 72, 73, 25, 26, 27, 28, 29, 30, 31, 32, 33, 34, 35, 36, 37, 38, 74, 76, 77, 78, 84, 85, 86, 87, 88, 89, 90, 91, 92, 94, 95, 101, 102, 103, 104, 105, 106, 107, 108, 109, 110, 111, 112, 113, 114, 115, 116, 117]
def ltN (a b : Sp) : Bool := Op.bytesLess a.name.toList b.name.toList
theorem all_idx : allL = idx.map (fun i => rowsL.getD i default) := by kernel_rfl
theorem rows_idx : rowsL = (List.range 118).map (fun i => rowsL.getD i default) := by kernel_rfl
theorem idx_perm : idx.Perm (List.range 118) := by decide +kernel
theorem all_perm : allL.Perm rowsL := by
  have h := idx_perm.map (fun i => rowsL.getD i default)
  rw [all_idx]
  exact h.trans (List.Perm.of_eq rows_idx.symm)
theorem bl_irrefl : ∀ x : List UInt8, Op.bytesLess x x = false
  | [] => rfl
  | a :: x => by simp [Op.bytesLess, bl_irrefl x]
theorem bl_trans : ∀ x y z : List UInt8, Op.bytesLess x y = true → Op.bytesLess y z = true → Op.bytesLess x z = true
  | _, _, [], _, h => by cases h' : ‹List UInt8› <;> simp_all [Op.bytesLess]
  | _, [], _ :: _, h, _ => by simp [Op.bytesLess] at h
  | [], _ :: _, _ :: _, _, _ => rfl
  | a :: x, b :: y, c :: z, h1, h2 => by
    simp only [Op.bytesLess, Bool.or_eq_true, decide_eq_true_eq, Bool.and_eq_true, beq_iff_eq] at h1 h2 ⊢
    rcases h1 with h1 | ⟨rfl, h1⟩
    · rcases h2 with h2 | ⟨rfl, h2⟩
      · exact .inl (UInt8.lt_trans h1 h2)
      · exact .inl h1
    · rcases h2 with h2 | ⟨rfl, h2⟩
      · exact .inl h2
      · exact .inr ⟨rfl, bl_trans x y z h1 h2⟩
theorem bl_total : ∀ x y : List UInt8, Op.bytesLess x y = false → x ≠ y → Op.bytesLess y x = true
  | [], [], _, h => absurd rfl h
  | _ :: _, [], _, _ => rfl
  | [], _ :: _, h, _ => by simp [Op.bytesLess] at h
  | a :: x, b :: y, h, hn => by
    simp only [Op.bytesLess, Bool.or_eq_false_iff, decide_eq_false_iff_not, Bool.or_eq_true, decide_eq_true_eq, Bool.and_eq_true, beq_iff_eq] at h ⊢
    by_cases e : a = b
    · subst e
      refine .inr ⟨rfl, bl_total x y ?_ (fun e => hn (by rw [e]))⟩
      have := h.2
      simpa using this
    · refine .inl ?_
      have h1 : ¬ a.toNat < b.toNat := h.1
      have h2 : a.toNat ≠ b.toNat := fun e' => e (UInt8.toNat_inj.1 e')
      exact UInt8.lt_iff_toNat_lt.2 (by omega)
theorem toL_inj {a b : ByteArray} (h : a.toList = b.toList) : a = b := by
  rw [ByteArray.toList_eq, ByteArray.toList_eq] at h
  cases a; cases b; simp_all
theorem rows_ord : rowsL.Pairwise (fun a b => ltN a b = true) := by decide +kernel
theorem lt_asym {a b : Sp} (h : ltN a b = true) : ltN b a = false := by
  cases hc : ltN b a
  · rfl
  · have := bl_trans _ _ _ h hc
    rw [bl_irrefl] at this; cases this
theorem rows_inj : ∀ {l : List Sp}, l.Pairwise (fun a b => ltN a b = true) → ∀ a ∈ l, ∀ b ∈ l, ltN b a = false → ltN a b = false → a = b
  | x :: r, h, a, ha, b, hb, h1, h2 => by
    have ho := List.pairwise_cons.1 h
    rcases List.mem_cons.1 ha with e | ha'
    · rcases List.mem_cons.1 hb with e2 | hb'
      · rw [e, e2]
      · rw [e, ho.1 b hb'] at h2; cases h2
    · rcases List.mem_cons.1 hb with e2 | hb'
      · rw [e2, ho.1 a ha'] at h1; cases h1
      · exact rows_inj ho.2 a ha' b hb' h1 h2
/-- The one sorted permutation. -/
theorem sorted_rows {d : List Sp} (hp : d.Perm allL) (hs : d.Pairwise (fun x y => ltN y x = false)) : d = rowsL := by
  have hq := hp.trans all_perm
  refine List.Perm.eq_of_pairwise (le := fun x y => ltN y x = false) ?_ hs (rows_ord.imp (fun h => lt_asym h)) hq
  intro a b ha hb h1 h2
  exact rows_inj rows_ord a (hq.mem_iff.1 ha) b hb h1 h2
end Go.Proofs.Ytiffdkagmnpjiaa.TbA
