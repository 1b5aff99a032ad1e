/- ItemAsk: PatternNamed and NameOf, by both packages. -/
import Derived.Test.YthnkhpebaeloeaaItemsFn
import Derived.Test.YthnkhpebaeloeaaItemsS
import Derived.Test.YthnkhpebaeloeaaItemsI
import Derived.Test.YthnkhpebaeloeaaGivesC
namespace Go.Proofs.Ythnkhpebaeloeaa
open Go.ChangeShapes Go.WideShapes Go.ChangeAt Go.RowKit

def patNamedL (l : List Item) (s : ByteArray) : List Int := if okItems l then (if findI (isNm s) l < 0 then [] else (nth l (findI (isNm s) l).toNat).pattern) else []
def patNamedCode (l : List Item) (s : ByteArray) : Int := if okItems l then (if findI (isNm s) l < 0 then 3 else 0) else 1
theorem patNamedL_len (l : List Item) (s : ByteArray) : (patNamedL l s).length ≤ 1099511627776 := by
  unfold patNamedL
  split
  · rename_i h
    split
    · simp
    · rcases findI_cases (isNm s) l with e | ⟨k, e, hk, -, -⟩
      · omega
      · rw [e, Int.toNat_natCast]
        have := (okPat_len (okItemAt_pat (okItems_at h hk))).2
        omega
  · simp

def nameOfK (l : List Item) (p : List Int) : Int := findI (isPt (canL p)) l
def nameOfS (l : List Item) (p : List Int) : ByteArray := if okItems l && okPat p then (if nameOfK l p < 0 then ByteArray.empty else (nth l (nameOfK l p).toNat).name) else ByteArray.empty
def nameOfCode (l : List Item) (p : List Int) : Int := if okItems l && okPat p then (if nameOfK l p < 0 then 3 else 0) else 1
theorem Gives.si {a1 b1 : ByteArray} {a2 b2 : Int} {k2 : IntKind} {w w' : World} (h1 : a1 = b1) (h2 : a2 = b2) (hb : Below w.heap.size w w') : Gives (.tuple #[.string a1, .int k2 a2]) w (.returned (.tuple #[.string b1, .int k2 b2])) w' := ⟨by rw [h1, h2], hb⟩
end Go.Proofs.Ythnkhpebaeloeaa
