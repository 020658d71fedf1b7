/-
  IxD1: what the functions of the package rotor compute, as the code reckons it (with all wraps). Plain definitions.
-/
import Derived.Test.YtllmejkmogepjaaDoorX28
namespace Go.Proofs.YtllmejkmogepjaaDoor.Ix
def withinS (n lo hi : Int) : Int := bif (decide (n < lo) || decide (n > hi)) then 3 else 0
/-- The first that is not 0, from place 'i' on. -/
def firstS (f : Nat → Int) : Nat → Nat → Int
  | 0, _ => 0
  | n + 1, i => bif f i != 0 then f i else firstS f n (i + 1)
abbrev w64 : Int → Int := IntKind.i64.wrap
/-- The cells of a section. -/
def secI (nl nd : Nat) (lf df : Nat → Int) (r c t tip w s p : Int) : IV :=
  .agg [.lst none 1 nl fun i => [.int .i64 (lf i)], .lst none 1 nd fun i => [.int .i64 (df i)], .int .i64 r, .int .i64 c, .int .i64 t, .int .i64 tip, .int .i64 w, .int .i64 s, .int .i64 p]
def maxW (a b : Int) : Int := if b > a then b else a
def minW (a b : Int) : Int := if b < a then b else a
def wholeW (d : Int) : Int := w64 (1 * 2 ^ (min d.toNat 64))
def denW (r s d : Int) : Int := w64 (w64 (wholeW d * s) * r)
def inflowW (r w s a d : Int) : Int := w64 ((w64 (w64 (1024 * w64 (wholeW d - a)) * w)).tdiv (denW r s d))
def classW (nl : Nat) (t p x : Int) : Int := minW (maxW 0 (w64 (x - w64 (t + p)))) (w64 (nl - 1))
def balanceW (nl : Nat) (lf : Nat → Int) (r c t tip w s p a d : Int) : Int :=
  w64 (w64 (w64 (w64 (1024 * a) * w64 (wholeW d - a)) * r) - w64 (w64 (w64 (w64 (wholeW d * wholeW d) * c) * tip) * lf (classW nl t p (inflowW r w s a d)).toNat))
/-- What the balance needs. -/
structure BalOK (nl : Nat) (r t w s p a d : Int) : Prop where
  d0 : 0 ≤ d
  den : denW r s d ≠ 0
  lo : 0 ≤ classW nl t p (inflowW r w s a d)
  hi : classW nl t p (inflowW r w s a d) < nl
def halfW (d : Int) : Int := w64 (1 * 2 ^ (min (w64 (d - 1)).toNat 64))
def bracketsW (nl : Nat) (lf : Nat → Int) (r c t tip w s p a d : Int) : Bool :=
  decide (a < halfW d) && (decide (balanceW nl lf r c t tip w s p a d ≤ 0) && decide (balanceW nl lf r c t tip w s p (w64 (a + 1)) d > 0))
/-- The search between two places. -/
def searchS (f : Int → Int) : Nat → Int → Int → Int
  | 0, lo, _ => lo
  | n + 1, lo, hi => bif decide (hi - lo > 1) then (bif decide (f ((lo + hi) / 2) ≤ 0) then searchS f n ((lo + hi) / 2) hi else searchS f n lo ((lo + hi) / 2)) else lo
def findS (f : Int → Int) (half : Int) : Option Int := bif decide (f half ≤ 0) then none else some (searchS f half.toNat 0 half)
def ofW (nl : Nat) (lf df : Nat → Int) (r c t tip p x : Int) : Int :=
  w64 (w64 (w64 (r * c) * tip) * w64 (w64 (x * lf (classW nl t p x).toNat) - w64 (1024 * df (classW nl t p x).toNat)))
def secL (nl nd : Nat) (lf df : Nat → Int) (r c t tip w s p : Int) : List IV :=
  [.lst none 1 nl fun i => [.int .i64 (lf i)], .lst none 1 nd fun i => [.int .i64 (df i)], .int .i64 r, .int .i64 c, .int .i64 t, .int .i64 tip, .int .i64 w, .int .i64 s, .int .i64 p]
end Go.Proofs.YtllmejkmogepjaaDoor.Ix
