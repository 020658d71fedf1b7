/-
  P4: a blade, a flow as one thing each; the errors of rings, inductions, depths; brackets, torques, thrusts of a ring.
-/
import Derived.Test.YtllmejkmogepjaaDoorXP3
namespace Go.Proofs.YtllmejkmogepjaaDoor.Ix

structure Bl where
  nl : Nat
  nd : Nat
  nr : Nat
  lf : Nat → Int
  df : Nat → Int
  r1 : Nat → Int
  r2 : Nat → Int
  r3 : Nat → Int
  r4 : Nat → Int
structure Fl where
  w : Int
  s : Int
  p : Int

/-- A blade's cells, a flow's cells. -/
abbrev bladeI (nl nd nr : Nat) (lf df r1 r2 r3 r4 : Nat → Int) : IV :=
  .agg [.lst none 1 nl fun i => [.int .i64 (lf i)], .lst none 1 nd fun i => [.int .i64 (df i)], .lst none 4 nr fun i => [.int .i64 (r1 i), .int .i64 (r2 i), .int .i64 (r3 i), .int .i64 (r4 i)]]
abbrev flowI (w s p : Int) : IV := .agg [.int .i64 w, .int .i64 s, .int .i64 p]
abbrev Bl.iv (b : Bl) : IV := bladeI b.nl b.nd b.nr b.lf b.df b.r1 b.r2 b.r3 b.r4
abbrev Fl.iv (f : Fl) : IV := flowI f.w f.s f.p
def Bl.err (b : Bl) : Int := bladeS b.nl b.lf b.nd b.df b.nr b.r1 b.r2 b.r3 b.r4
def Fl.err (f : Fl) : Int := flowS f.w f.s f.p
def Bl.ok (b : Bl) (f : Fl) (i : Nat) : Prop := SecOK b.nl b.lf b.df (b.r1 i) (b.r2 i) (b.r3 i) (b.r4 i) f.w f.s f.p
def Bl.bal (b : Bl) (f : Fl) (i : Nat) (a : Int) (d : Nat) : Int := balP b.nl b.lf (b.r1 i) (b.r2 i) (b.r3 i) (b.r4 i) f.w f.s f.p a d
def Bl.br (b : Bl) (f : Fl) (i : Nat) (d : Nat) : Option Int := brP b.nl b.lf (b.r1 i) (b.r2 i) (b.r3 i) (b.r4 i) f.w f.s f.p d
def Bl.tor (b : Bl) (f : Fl) (i : Nat) (a : Int) (d : Nat) : Int × Int := torqueP b.nl b.lf b.df (b.r1 i) (b.r2 i) (b.r3 i) (b.r4 i) f.w f.s f.p a d
def Bl.thr (b : Bl) (i : Nat) (a : Int) (d : Nat) : Int × Int := (thrustP (b.r1 i) a d, thrustP (b.r1 i) (a + 1) d)

theorem Bl.good {b : Bl} {f : Fl} (hb : b.err = 0) (hf : f.err = 0) : b.nd = b.nl ∧ 1 ≤ b.nr ∧ b.nr ≤ 16 ∧ ∀ i, i < b.nr → b.ok f i := bladeS_ok hb hf

def ringErr (b : Bl) (f : Fl) (ring : Int) : Int := orE b.err (orE f.err (bif decide (ring < 0) || decide (ring ≥ b.nr) then 10 else 0))
def indErr (a d : Int) : Int := orE (withinS d 1 12) (withinS a 0 (2 ^ (d - 1).toNat))
def allErr (b : Bl) (f : Fl) (d : Int) : Int := orE b.err (orE f.err (withinS d 1 12))

theorem ringErr_ok {b : Bl} {f : Fl} {ring : Int} (h : ringErr b f ring = 0) : b.err = 0 ∧ f.err = 0 ∧ 0 ≤ ring ∧ ring < b.nr := by
  unfold ringErr at h
  simp only [orE_zero] at h
  rw [bif_zero (by decide)] at h
  simp at h
  exact ⟨h.1, h.2.1, by omega, by omega⟩

theorem indErr_ok {a d : Int} (h : indErr a d = 0) : ∃ n : Nat, d = (n + 1 : Nat) ∧ n < 12 ∧ 0 ≤ a ∧ a ≤ 2 ^ n := by
  unfold indErr at h
  simp only [orE_zero, withinS_zero] at h
  obtain ⟨⟨h1, h2⟩, h3, h4⟩ := h
  refine ⟨(d - 1).toNat, by omega, by omega, h3, h4⟩

/-- The balance of a ring at an induction, or the error. -/
def balR (b : Bl) (f : Fl) (ring a d : Int) : IV :=
  let e := orE (ringErr b f ring) (indErr a d)
  .tup [.int .i64 (bif e != 0 then 0 else b.bal f ring.toNat a d.toNat), .int .i64 e]

/-- The bracket of a ring at a depth, or the error. -/
def findR (b : Bl) (f : Fl) (ring d : Int) : IV :=
  let e := orE (ringErr b f ring) (withinS d 1 12)
  bif e != 0 then .tup [.agg [.int .i64 0, .int .i64 0], .int .i64 e] else
    match b.br f ring.toNat (d - 1).toNat with
    | none => .tup [.agg [.int .i64 0, .int .i64 0], .int .i64 7]
    | some a => .tup [.agg [.int .i64 a, .int .i64 d], .int .i64 0]

def isBr (b : Bl) (f : Fl) (i : Nat) (a : Int) (d : Nat) : Bool := decide (a < 2 ^ (d - 1)) && (decide (b.bal f i a d ≤ 0) && decide (b.bal f i (a + 1) d > 0))

def brErr (b : Bl) (f : Fl) (ring a d : Int) : Int :=
  orE (orE (ringErr b f ring) (indErr a d)) (bif !(isBr b f ring.toNat a d.toNat) then 22 else 0)

/-- One bit finer, or the error. -/
def refineR (b : Bl) (f : Fl) (ring a d : Int) : IV :=
  let e := orE (brErr b f ring a d) (bif d == 12 then 23 else 0)
  bif e != 0 then .tup [.agg [.int .i64 0, .int .i64 0], .int .i64 e] else
    bif isBr b f ring.toNat (2 * a) (d.toNat + 1) then .tup [.agg [.int .i64 (2 * a), .int .i64 (d + 1)], .int .i64 0] else .tup [.agg [.int .i64 (2 * a + 1), .int .i64 (d + 1)], .int .i64 0]

theorem pow_half {d : Nat} (h : 1 ≤ d) : (2 : Int) ^ d = 2 * 2 ^ (d - 1) := by
  obtain ⟨m, rfl⟩ : ∃ m, d = m + 1 := ⟨d - 1, by omega⟩
  rw [Int.pow_succ]; simp; omega

end Go.Proofs.YtllmejkmogepjaaDoor.Ix
