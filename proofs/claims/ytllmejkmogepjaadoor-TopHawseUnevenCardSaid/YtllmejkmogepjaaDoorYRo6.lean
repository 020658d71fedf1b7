/-
  Ro6: contracts of the functions of the package rotor, the sixth part: loads and pairs.
-/
import Derived.Test.YtllmejkmogepjaaDoorYRo2
namespace Go.Proofs.YtllmejkmogepjaaDoor.Ix
open Go.Proofs
set_option maxRecDepth 100000
set_option linter.unusedVariables false
variable {gl : Nat → IV}

def loadS (a b c : Int) : Int := orE (withinS a (-1000000) 1000000) (orE (withinS b (-1000000) 1000000) (withinS c (-1000000) 1000000))

theorem c_checkLoads (up : List Ces) (a b c : Int) : Cs gl n_rotor_checkLoads up [.agg [.int .i64 a, .int .i64 b, .int .i64 c]] (.int .i64 (loadS a b c)) up := by
  refine mk h_rotor_checkLoads rfl rfl ?_
  conv => whnf
  refine .mk _ _ _ _ _ ?_ (c_mapped _ 3 (by decide) (fun i => [a, b, c].getD i 0) (fun i => withinS ([a, b, c].getD i 0) (-1000000) 1000000) n_rotor_checkLoads_1 (fun up i _ => c_checkLoads1 up _)) rfl ?_
  · refine ⟨⟨.inl rfl, rfl, rfl, fun i hi => ?_⟩, rfl, trivial⟩
    match i, hi with
    | 0, _ => rfl
    | 1, _ => rfl
    | 2, _ => rfl
  conv => whnf
  refine .mk _ _ _ _ _ (leL_refl _) (c_f3 _ _ _ _ _ rfl rfl rfl) rfl ?_
  conv => whnf
  exact ⟨rfl, rfl⟩

theorem loadS_ok {a b c : Int} (h : loadS a b c = 0) : (-1000000 ≤ a ∧ a ≤ 1000000) ∧ (-1000000 ≤ b ∧ b ≤ 1000000) ∧ (-1000000 ≤ c ∧ c ≤ 1000000) := by
  unfold loadS at h
  simpa only [orE_zero, withinS_zero] using h

/-- The sum and the component, or the error. -/
def splitR (a b c : Int) : IV :=
  bif loadS a b c != 0 then .tup [.int .i64 0, .agg [.int .i64 0, .int .i64 0], .int .i64 (loadS a b c)]
  else .tup [.int .i64 (a + b + c), .agg [.int .i64 (a - c), .int .i64 (b - c)], .int .i64 0]

theorem c_Split (up : List Ces) (a b c : Int) : Cs gl n_rotor_Split up [.agg [.int .i64 a, .int .i64 b, .int .i64 c]] (splitR a b c) up := by
  refine mk h_rotor_Split rfl rfl ?_
  unfold splitR
  conv => whnf
  refine .mk _ _ _ _ _ (leL_refl _) (c_checkLoads _ _ _ _) rfl ?_
  conv => whnf
  split
  · rename_i h
    have h : (loadS a b c != 0) = true := h
    conv => whnf
    refine ⟨?_, rfl⟩
    rw [h]; rfl
  · rename_i h
    have h : (loadS a b c != 0) = false := h
    rw [h, cond_false]
    obtain ⟨h1, h2, h3⟩ := loadS_ok (show loadS a b c = 0 by simpa using h)
    have e1 : w64 (w64 (a + b) + c) = a + b + c := by
      have : w64 (a + b) = a + b := by rw [w64, wrap_in] <;> omega
      rw [this, w64, wrap_in] <;> omega
    have e2 : w64 (a - c) = a - c := by rw [w64, wrap_in] <;> omega
    have e3 : w64 (b - c) = b - c := by rw [w64, wrap_in] <;> omega
    conv => whnf
    split
    · rename_i g
      have g : (a == 0 && (b == 0 && (c == 0 && true))) = true := g
      simp at g
      obtain ⟨rfl, rfl, rfl⟩ := g
      conv => whnf
      exact ⟨rfl, rfl⟩
    · conv => whnf
      refine .mk 10 (by kernel_rfl) ?_
      conv => whnf
      refine .mk _ _ _ (leL_refl _) (c_component _ _ _ _) rfl ?_
      conv => whnf
      refine ⟨?_, rfl⟩
      show IV.tup [.int .i64 (w64 (w64 (a + b) + c)), .agg [.int .i64 (w64 (a - c)), .int .i64 (w64 (b - c))], .int .i64 0] = _
      rw [e1, e2, e3]

def pairS (a b : Int) : Int := orE (withinS a (-999999999) 999999999) (withinS b (-999999999) 999999999)

theorem c_PairCheck (up : List Ces) (a b : Int) : Cs gl n_rotor_Pair_check up [.agg [.int .i64 a, .int .i64 b]] (.int .i64 (pairS a b)) up := by
  refine mk h_rotor_Pair_check rfl rfl ?_
  conv => whnf
  refine .mk 8 (by kernel_rfl) ?_
  conv => whnf
  refine .mk _ _ _ (leL_refl _) (c_within _ _ _ _) rfl ?_
  conv => whnf
  refine .mk _ _ _ (leL_refl _) (c_within _ _ _ _) rfl ?_
  conv => whnf
  refine .mk _ _ _ (leL_refl _) (c_f2 _ _ _ _ rfl rfl) rfl ?_
  conv => whnf
  exact ⟨rfl, rfl⟩

theorem pairS_ok {a b : Int} (h : pairS a b = 0) : (-999999999 ≤ a ∧ a ≤ 999999999) ∧ (-999999999 ≤ b ∧ b ≤ 999999999) := by
  unfold pairS at h
  simpa only [orE_zero, withinS_zero] using h

theorem mulA {x y A B : Int} (h1 : -A ≤ x ∧ x ≤ A) (h3 : -B ≤ y ∧ y ≤ B) : -(A * B) ≤ x * y ∧ x * y ≤ A * B := by
  by_cases hx : 0 ≤ x
  · by_cases hy : 0 ≤ y
    · have := mulB hx h1.2 hy h3.2; omega
    · have := mulB (y := -y) hx h1.2 (by omega) (show -y ≤ B by omega)
      rw [Int.mul_neg] at this; omega
  · by_cases hy : 0 ≤ y
    · have := mulB (x := -x) (by omega) (show -x ≤ A by omega) hy h3.2
      rw [Int.neg_mul] at this; omega
    · have := mulB (x := -x) (y := -y) (by omega) (show -x ≤ A by omega) (by omega) (show -y ≤ B by omega)
      rw [Int.neg_mul_neg] at this; omega

/-- The norm, or the error. -/
def normR (a b : Int) : IV :=
  bif pairS a b != 0 then .tup [.int .i64 0, .int .i64 (pairS a b)] else .tup [.int .i64 (a * a - a * b + b * b), .int .i64 0]

theorem c_Norm (up : List Ces) (a b : Int) : Cs gl n_rotor_Norm up [.agg [.int .i64 a, .int .i64 b]] (normR a b) up := by
  refine mk h_rotor_Norm rfl rfl ?_
  unfold normR
  conv => whnf
  refine .mk _ _ _ _ _ (leL_refl _) (c_PairCheck _ _ _) rfl ?_
  conv => whnf
  split
  · rename_i h
    have h : (pairS a b != 0) = true := h
    conv => whnf
    refine ⟨?_, rfl⟩
    rw [h]; rfl
  · rename_i h
    have h : (pairS a b != 0) = false := h
    rw [h, cond_false]
    obtain ⟨h1, h2⟩ := pairS_ok (show pairS a b = 0 by simpa using h)
    have b1 := mulA (A := 999999999) (B := 999999999) h1 h1
    have b2 := mulA (A := 999999999) (B := 999999999) h1 h2
    have b3 := mulA (A := 999999999) (B := 999999999) h2 h2
    have e1 : w64 (a * a) = a * a := by rw [w64, wrap_in] <;> omega
    have e2 : w64 (a * b) = a * b := by rw [w64, wrap_in] <;> omega
    have e3 : w64 (b * b) = b * b := by rw [w64, wrap_in] <;> omega
    have e4 : w64 (a * a - a * b) = a * a - a * b := by rw [w64, wrap_in] <;> omega
    have e5 : w64 (a * a - a * b + b * b) = a * a - a * b + b * b := by rw [w64, wrap_in] <;> omega
    conv => whnf
    refine ⟨?_, rfl⟩
    show IV.tup [.int .i64 (w64 (w64 (w64 (a * a) - w64 (a * b)) + w64 (b * b))), .int .i64 0] = _
    rw [e1, e2, e3, e4, e5]
end Go.Proofs.YtllmejkmogepjaaDoor.Ix
