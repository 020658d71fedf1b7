/-
  Lk1: RotorBrackets: the law.
-/
import Derived.Test.YtllmejkmogepjaaGreatDoorM6
namespace Go.Proofs.YtllmejkmogepjaaGreatDoor.Ix
open Go.Proofs
set_option maxRecDepth 100000
set_option linter.unusedVariables false
variable {gl : Nat → IV}

theorem brackets_no (up : List Ces) (hr : gl g_rotor_roots = rootsI) (hp : gl g_internal_strconv_uint64pow10 = powI) (b : Bl) (f : Fl) (hs : b.short = false) (ring a d x D : Int) :
    Cs gl n_nacellelaw03_RotorBrackets up [b.iv, f.iv, .agg [.int .i64 ring, .int .i64 a, .int .i64 d, .int .i64 x, .int .i64 D]] (.bool true) up := by
  refine mk h_nacellelaw03_RotorBrackets rfl rfl ?_
  have hS := fun up => c_Short (gl := gl) up b
  rw [hs] at hS
  conv => whnf
  refine .mk _ _ _ _ _ (leL_refl _) (c_awake _ hr hp) rfl ?_
  conv => whnf
  refine .mk _ _ _ _ _ (leL_refl _) (hS _) rfl ?_
  conv => whnf
  refine .mk _ _ _ _ _ (leL_refl _) (c_awake _ hr hp) rfl ?_
  conv => whnf
  exact ⟨rfl, rfl⟩

/-- What comes of Find, in the program. -/
structure FindV (b : Bl) (f : Fl) (ring D FA FD F1 : Int) : Prop where
  h : findR b f ring D = .tup [.agg [.int .i64 FA, .int .i64 FD], .int .i64 F1]
/-- What comes of Refine, in the program. -/
structure RefV (b : Bl) (f : Fl) (ring a d RA RD F3 : Int) : Prop where
  h : refineR b f ring a d = .tup [.agg [.int .i64 RA, .int .i64 RD], .int .i64 F3]

/-- What is read behind each call. -/
def lvBrackets : List (Nat × List Nat) := [(19, [3, 4, 5, 6, 7, 8, 9, 10, 11, 19]), (23, [3, 4, 5, 6, 7, 8, 9, 10, 11, 21, 23]), (26, [3, 4, 5, 6, 7, 8, 9, 10, 11, 26]), (29, [3, 4, 5, 6, 7, 8, 9, 10, 11, 29]), (35, [3, 4, 5, 6, 7, 8, 9, 10, 11, 35]), (39, [3, 4, 5, 6, 7, 8, 9, 10, 11, 39]), (45, [3, 4, 5, 6, 7, 8, 9, 10, 11, 45]), (48, [3, 4, 5, 6, 7, 8, 9, 10, 11, 48]), (54, [3, 4, 5, 6, 7, 8, 9, 10, 11, 54]), (61, [3, 4, 5, 6, 7, 8, 9, 10, 11, 61]), (65, [3, 4, 5, 6, 7, 8, 9, 10, 11, 12, 62, 65]), (67, [3, 4, 5, 6, 7, 8, 9, 10, 11, 12, 67]), (71, [3, 4, 5, 6, 7, 8, 9, 10, 11, 67, 68, 71]), (73, [3, 4, 5, 6, 7, 8, 9, 10, 11, 67, 73]), (88, [3, 4, 5, 6, 7, 8, 9, 10, 11, 13, 14, 15, 16, 17, 88]), (107, [3, 4, 5, 6, 7, 8, 9, 10, 11, 13, 14, 15, 16, 95, 107]), (135, [6, 7, 8, 9, 10, 11, 13, 14, 15, 16, 18, 135])]
set_option maxHeartbeats 8000000 in
theorem brackets_A1 (up : List Ces) (hr : gl g_rotor_roots = rootsI) (hp : gl g_internal_strconv_uint64pow10 = powI) (b : Bl) (f : Fl) (hs : b.short = true) (ring a d x D E1 : Int) (hE1 : E1 = orE (ringErr b f ring) (withinS D 1 12)) (zA : E1 ≠ 0) :
    Cs gl n_nacellelaw03_RotorBrackets up [b.iv, f.iv, .agg [.int .i64 ring, .int .i64 a, .int .i64 d, .int .i64 x, .int .i64 D]] (.bool true) up := by
  obtain ⟨hl, hd, hn⟩ := short_le hs
  have hS := fun up => c_Short (gl := gl) up b
  rw [hs] at hS
  have hA := fun up => c_awake (gl := gl) up hr hp
  have hb := fun up => c_blade (gl := gl) up b hl hd hn
  obtain ⟨E2, hE2⟩ : ∃ E2, E2 = orE (ringErr b f ring) (indErr a d) := ⟨_, rfl⟩
  have k2 : E2 = 0 → 0 ≤ ring ∧ ring < b.nr ∧ b.ok f ring.toNat ∧ (b.err = 0 ∧ f.err = 0) ∧ ∃ D : Nat, d = D ∧ 1 ≤ D ∧ D ≤ 12 ∧ 0 ≤ a ∧ a ≤ 2 ^ (D - 1) := fun h => by
    rw [hE2, orE_zero] at h
    obtain ⟨g1, g2, g3, g4⟩ := ringErr_ok h.1
    obtain ⟨n, rfl, n2, n3, n4⟩ := indErr_ok h.2
    obtain ⟨_, _, _, ok⟩ := Bl.good g1 g2
    exact ⟨g3, g4, ok _ (by omega), ⟨g1, g2⟩, n + 1, rfl, by omega, by omega, n3, by simpa using n4⟩
  have hR2 := fun up => c_rCheckRing (gl := gl) up b f ring
  have hf1 := fun up => c_rfl2 (gl := gl) up (ringErr b f ring) (withinS D 1 12)
  rw [← hE1] at hf1
  have hf2' := fun up => c_rfl2 (gl := gl) up (ringErr b f ring) (indErr a d)
  rw [← hE2] at hf2'
  have hFi := fun up => c_Find (gl := gl) up b f ring D
  have e0 : findR b f ring D = .tup [.agg [.int .i64 0, .int .i64 0], .int .i64 E1] := by
    unfold findR
    simp only
    rw [← hE1, show (E1 != 0) = true by simpa using zA]; rfl
  rw [e0] at hFi
  by_cases zB : E2 = 0
  rotate_left
  · have hRf := fun up => c_Refine (gl := gl) up b f ring a d
    have e0 : orE (brErr b f ring a d) (bif d == 12 then 23 else 0) = E2 := by
      unfold brErr
      rw [← hE2, orE_pos (a := E2) (by simpa using zB), orE_pos (by simpa using zB)]
    have e1 : refineR b f ring a d = .tup [.agg [.int .i64 0, .int .i64 0], .int .i64 E2] := by
      unfold refineR
      simp only
      rw [e0, show (E2 != 0) = true by simpa using zB]; rfl
    have e2 : brErr b f ring a d = E2 := by
      unfold brErr
      rw [← hE2, orE_pos (a := E2) (by simpa using zB)]
    rw [e1] at hRf
    have hBr := fun up => c_CheckBracket (gl := gl) up b f ring a d
    rw [e2] at hBr
    refine mk h_nacellelaw03_RotorBrackets rfl rfl ?_
    conv => whnf
    repeat first
      | (show DRAW _ _ _ _ _; first | refine .mk 0 (by decide +kernel) ?_ | refine .mk 1 (by decide +kernel) ?_ | refine .mk 2 (by decide +kernel) ?_ | refine .mk 3 (by decide +kernel) ?_ | refine .mk 4 (by decide +kernel) ?_ | refine .mk 5 (by decide +kernel) ?_ | refine .mk 6 (by decide +kernel) ?_ | refine .mk 7 (by decide +kernel) ?_ | refine .mk 8 (by decide +kernel) ?_ | refine .mk 9 (by decide +kernel) ?_ | refine .mk 10 (by decide +kernel) ?_ | refine .mk 11 (by decide +kernel) ?_ | refine .mk 12 (by decide +kernel) ?_ | refine .mk 13 (by decide +kernel) ?_ | refine .mk 14 (by decide +kernel) ?_ | refine .mk 15 (by decide +kernel) ?_ | refine .mk 16 (by decide +kernel) ?_ | refine .mk 17 (by decide +kernel) ?_ | refine .mk 18 (by decide +kernel) ?_ | refine .mk 19 (by decide +kernel) ?_ | refine .mk 20 (by decide +kernel) ?_ | refine .mk 21 (by decide +kernel) ?_ | refine .mk 22 (by decide +kernel) ?_ | refine .mk 23 (by decide +kernel) ?_ | refine .mk 24 (by decide +kernel) ?_ | refine .mk 25 (by decide +kernel) ?_ | refine .mk 26 (by decide +kernel) ?_ | refine .mk 27 (by decide +kernel) ?_ | refine .mk 28 (by decide +kernel) ?_ | refine .mk 29 (by decide +kernel) ?_ | refine .mk 30 (by decide +kernel) ?_ | refine .mk 31 (by decide +kernel) ?_ | refine .mk 32 (by decide +kernel) ?_ | refine .mk 33 (by decide +kernel) ?_ | refine .mk 34 (by decide +kernel) ?_ | refine .mk 35 (by decide +kernel) ?_ | refine .mk 36 (by decide +kernel) ?_ | refine .mk 37 (by decide +kernel) ?_ | refine .mk 38 (by decide +kernel) ?_ | refine .mk 39 (by decide +kernel) ?_ | refine .mk 40 (by decide +kernel) ?_ | refine .mk 41 (by decide +kernel) ?_ | refine .mk 42 (by decide +kernel) ?_ | refine .mk 43 (by decide +kernel) ?_ | refine .mk 44 (by decide +kernel) ?_ | refine .mk 45 (by decide +kernel) ?_ | refine .mk 46 (by decide +kernel) ?_ | refine .mk 47 (by decide +kernel) ?_ | refine .mk 48 (by decide +kernel) ?_ | refine .mk 49 (by decide +kernel) ?_ | refine .mk 50 (by decide +kernel) ?_ | refine .mk 51 (by decide +kernel) ?_ | refine .mk 52 (by decide +kernel) ?_ | refine .mk 53 (by decide +kernel) ?_ | refine .mk 54 (by decide +kernel) ?_ | refine .mk 55 (by decide +kernel) ?_ | refine .mk 56 (by decide +kernel) ?_ | refine .mk 57 (by decide +kernel) ?_ | refine .mk 58 (by decide +kernel) ?_ | refine .mk 59 (by decide +kernel) ?_ | refine .mk 60 (by decide +kernel) ?_ | refine .mk 61 (by decide +kernel) ?_ | refine .mk 62 (by decide +kernel) ?_ | refine .mk 63 (by decide +kernel) ?_ | refine .mk 64 (by decide +kernel) ?_ | refine .mk 65 (by decide +kernel) ?_ | refine .mk 66 (by decide +kernel) ?_ | refine .mk 67 (by decide +kernel) ?_ | refine .mk 68 (by decide +kernel) ?_ | refine .mk 69 (by decide +kernel) ?_ | refine .mk 70 (by decide +kernel) ?_ | refine .mk 71 (by decide +kernel) ?_ | refine .mk 72 (by decide +kernel) ?_ | refine .mk 73 (by decide +kernel) ?_ | refine .mk 74 (by decide +kernel) ?_ | refine .mk 75 (by decide +kernel) ?_ | refine .mk 76 (by decide +kernel) ?_ | refine .mk 77 (by decide +kernel) ?_ | refine .mk 78 (by decide +kernel) ?_ | refine .mk 79 (by decide +kernel) ?_ | refine .mk 80 (by decide +kernel) ?_ | refine .mk 81 (by decide +kernel) ?_ | refine .mk 82 (by decide +kernel) ?_ | refine .mk 83 (by decide +kernel) ?_ | refine .mk 84 (by decide +kernel) ?_ | refine .mk 85 (by decide +kernel) ?_ | refine .mk 86 (by decide +kernel) ?_ | refine .mk 87 (by decide +kernel) ?_ | refine .mk 88 (by decide +kernel) ?_ | refine .mk 89 (by decide +kernel) ?_; conv => whnf)
      | (refine CALL0.cutBy lvBrackets _ _ _ _ _ (leL_refl _) (hA ..) rfl ?_; conv => whnf)
      | (refine CALL0.mk _ _ _ _ _ (leL_refl _) (hA ..) rfl ?_; conv => whnf)
      | (refine CALLQ.mk _ _ _ (leL_refl _) (hA ..) rfl ?_; conv => whnf)
      | (refine CALL0.cutBy lvBrackets _ _ _ _ _ (leL_refl _) (hS ..) rfl ?_; conv => whnf)
      | (refine CALL0.mk _ _ _ _ _ (leL_refl _) (hS ..) rfl ?_; conv => whnf)
      | (refine CALLQ.mk _ _ _ (leL_refl _) (hS ..) rfl ?_; conv => whnf)
      | (refine CALL0.cutBy lvBrackets _ _ _ _ _ (leL_refl _) (hb ..) rfl ?_; conv => whnf)
      | (refine CALL0.mk _ _ _ _ _ (leL_refl _) (hb ..) rfl ?_; conv => whnf)
      | (refine CALLQ.mk _ _ _ (leL_refl _) (hb ..) rfl ?_; conv => whnf)
      | (refine CALL0.cutBy lvBrackets _ _ _ _ _ (leL_refl _) (hFi ..) rfl ?_; conv => whnf)
      | (refine CALL0.mk _ _ _ _ _ (leL_refl _) (hFi ..) rfl ?_; conv => whnf)
      | (refine CALLQ.mk _ _ _ (leL_refl _) (hFi ..) rfl ?_; conv => whnf)
      | (refine CALL0.cutBy lvBrackets _ _ _ _ _ (leL_refl _) (hBr ..) rfl ?_; conv => whnf)
      | (refine CALL0.mk _ _ _ _ _ (leL_refl _) (hBr ..) rfl ?_; conv => whnf)
      | (refine CALLQ.mk _ _ _ (leL_refl _) (hBr ..) rfl ?_; conv => whnf)
      | (refine CALL0.cutBy lvBrackets _ _ _ _ _ (leL_refl _) (hRf ..) rfl ?_; conv => whnf)
      | (refine CALL0.mk _ _ _ _ _ (leL_refl _) (hRf ..) rfl ?_; conv => whnf)
      | (refine CALLQ.mk _ _ _ (leL_refl _) (hRf ..) rfl ?_; conv => whnf)
      | (refine CALL0.cutBy lvBrackets _ _ _ _ _ (leL_refl _) (hR2 ..) rfl ?_; conv => whnf)
      | (refine CALL0.mk _ _ _ _ _ (leL_refl _) (hR2 ..) rfl ?_; conv => whnf)
      | (refine CALLQ.mk _ _ _ (leL_refl _) (hR2 ..) rfl ?_; conv => whnf)
      | (refine CALL0.cutBy lvBrackets _ _ _ _ _ (leL_refl _) (c_rCheckInduction ..) rfl ?_; conv => whnf)
      | (refine CALL0.mk _ _ _ _ _ (leL_refl _) (c_rCheckInduction ..) rfl ?_; conv => whnf)
      | (refine CALLQ.mk _ _ _ (leL_refl _) (c_rCheckInduction ..) rfl ?_; conv => whnf)
      | (refine CALL0.cutBy lvBrackets _ _ _ _ _ (leL_refl _) (c_rCheckDepth ..) rfl ?_; conv => whnf)
      | (refine CALL0.mk _ _ _ _ _ (leL_refl _) (c_rCheckDepth ..) rfl ?_; conv => whnf)
      | (refine CALLQ.mk _ _ _ (leL_refl _) (c_rCheckDepth ..) rfl ?_; conv => whnf)
      | (refine CALL0.cutBy lvBrackets _ _ _ _ _ (leL_refl _) (hf1 ..) rfl ?_; conv => whnf)
      | (refine CALL0.mk _ _ _ _ _ (leL_refl _) (hf1 ..) rfl ?_; conv => whnf)
      | (refine CALLQ.mk _ _ _ (leL_refl _) (hf1 ..) rfl ?_; conv => whnf)
      | (refine CALL0.cutBy lvBrackets _ _ _ _ _ (leL_refl _) (hf2' ..) rfl ?_; conv => whnf)
      | (refine CALL0.mk _ _ _ _ _ (leL_refl _) (hf2' ..) rfl ?_; conv => whnf)
      | (refine CALLQ.mk _ _ _ (leL_refl _) (hf2' ..) rfl ?_; conv => whnf)
    split
    · rename_i h
      exact absurd h (by simp [zA])
    rename_i hN
    clear hN
    conv => whnf
    first
      | refine .mk 0 (by decide +kernel) ?_
      | refine .mk 1 (by decide +kernel) ?_
      | refine .mk 2 (by decide +kernel) ?_
      | refine .mk 3 (by decide +kernel) ?_
      | refine .mk 4 (by decide +kernel) ?_
      | refine .mk 5 (by decide +kernel) ?_
      | refine .mk 6 (by decide +kernel) ?_
      | refine .mk 7 (by decide +kernel) ?_
      | refine .mk 8 (by decide +kernel) ?_
      | refine .mk 9 (by decide +kernel) ?_
      | refine .mk 10 (by decide +kernel) ?_
      | refine .mk 11 (by decide +kernel) ?_
      | refine .mk 12 (by decide +kernel) ?_
      | refine .mk 13 (by decide +kernel) ?_
      | refine .mk 14 (by decide +kernel) ?_
      | refine .mk 15 (by decide +kernel) ?_
      | refine .mk 16 (by decide +kernel) ?_
      | refine .mk 17 (by decide +kernel) ?_
      | refine .mk 18 (by decide +kernel) ?_
      | refine .mk 19 (by decide +kernel) ?_
      | refine .mk 20 (by decide +kernel) ?_
      | refine .mk 21 (by decide +kernel) ?_
      | refine .mk 22 (by decide +kernel) ?_
      | refine .mk 23 (by decide +kernel) ?_
      | refine .mk 24 (by decide +kernel) ?_
      | refine .mk 25 (by decide +kernel) ?_
      | refine .mk 26 (by decide +kernel) ?_
      | refine .mk 27 (by decide +kernel) ?_
      | refine .mk 28 (by decide +kernel) ?_
      | refine .mk 29 (by decide +kernel) ?_
      | refine .mk 30 (by decide +kernel) ?_
      | refine .mk 31 (by decide +kernel) ?_
      | refine .mk 32 (by decide +kernel) ?_
      | refine .mk 33 (by decide +kernel) ?_
      | refine .mk 34 (by decide +kernel) ?_
      | refine .mk 35 (by decide +kernel) ?_
      | refine .mk 36 (by decide +kernel) ?_
      | refine .mk 37 (by decide +kernel) ?_
      | refine .mk 38 (by decide +kernel) ?_
      | refine .mk 39 (by decide +kernel) ?_
      | refine .mk 40 (by decide +kernel) ?_
      | refine .mk 41 (by decide +kernel) ?_
      | refine .mk 42 (by decide +kernel) ?_
      | refine .mk 43 (by decide +kernel) ?_
      | refine .mk 44 (by decide +kernel) ?_
      | refine .mk 45 (by decide +kernel) ?_
      | refine .mk 46 (by decide +kernel) ?_
      | refine .mk 47 (by decide +kernel) ?_
      | refine .mk 48 (by decide +kernel) ?_
      | refine .mk 49 (by decide +kernel) ?_
      | refine .mk 50 (by decide +kernel) ?_
      | refine .mk 51 (by decide +kernel) ?_
      | refine .mk 52 (by decide +kernel) ?_
      | refine .mk 53 (by decide +kernel) ?_
      | refine .mk 54 (by decide +kernel) ?_
      | refine .mk 55 (by decide +kernel) ?_
      | refine .mk 56 (by decide +kernel) ?_
      | refine .mk 57 (by decide +kernel) ?_
      | refine .mk 58 (by decide +kernel) ?_
      | refine .mk 59 (by decide +kernel) ?_
      | refine .mk 60 (by decide +kernel) ?_
      | refine .mk 61 (by decide +kernel) ?_
      | refine .mk 62 (by decide +kernel) ?_
      | refine .mk 63 (by decide +kernel) ?_
      | refine .mk 64 (by decide +kernel) ?_
      | refine .mk 65 (by decide +kernel) ?_
      | refine .mk 66 (by decide +kernel) ?_
      | refine .mk 67 (by decide +kernel) ?_
      | refine .mk 68 (by decide +kernel) ?_
      | refine .mk 69 (by decide +kernel) ?_
      | refine .mk 70 (by decide +kernel) ?_
      | refine .mk 71 (by decide +kernel) ?_
      | refine .mk 72 (by decide +kernel) ?_
      | refine .mk 73 (by decide +kernel) ?_
      | refine .mk 74 (by decide +kernel) ?_
      | refine .mk 75 (by decide +kernel) ?_
      | refine .mk 76 (by decide +kernel) ?_
      | refine .mk 77 (by decide +kernel) ?_
      | refine .mk 78 (by decide +kernel) ?_
      | refine .mk 79 (by decide +kernel) ?_
      | refine .mk 80 (by decide +kernel) ?_
      | refine .mk 81 (by decide +kernel) ?_
      | refine .mk 82 (by decide +kernel) ?_
      | refine .mk 83 (by decide +kernel) ?_
      | refine .mk 84 (by decide +kernel) ?_
      | refine .mk 85 (by decide +kernel) ?_
      | refine .mk 86 (by decide +kernel) ?_
      | refine .mk 87 (by decide +kernel) ?_
      | refine .mk 88 (by decide +kernel) ?_
      | refine .mk 89 (by decide +kernel) ?_
    conv => whnf
    split
    · rename_i h
      exact absurd h (by simp [zB])
    rename_i hN
    clear hN
    conv => whnf
    split
    · rename_i h
      exact absurd h (by simp [zB])
    rename_i hN
    clear hN
    conv => whnf
    split
    · rename_i h
      exact absurd h (by simp [zB])
    rename_i hN
    clear hN
    conv => whnf
    split
    rotate_left
    (rename_i hz; exact absurd hz (by simp))
    conv => whnf
    repeat first
      | exact ⟨rfl, rfl⟩
      | (split; rotate_left; (rename_i hz; exact absurd hz (by simp [zA])); (conv => whnf))
      | exact ⟨by simp [zA], rfl⟩
  obtain ⟨r0, r1, ok, gB, D', rfl, d1, d2, a0, a1⟩ := k2 zB
  have hIB := fun up => c_rIsBracket (gl := gl) up b f ring.toNat ok a D' d1 d2 a0 a1
  have e20 : brErr b f ring a D' = bif isBr b f ring.toNat a D' then 0 else 22 := by
    unfold brErr
    rw [← hE2, zB, show ((D' : Nat) : Int).toNat = D' by omega]
    cases isBr b f ring.toNat a D' <;> rfl
  cases hib : isBr b f ring.toNat a D' with
  | false =>
    rw [hib] at hIB e20
    have e20 : brErr b f ring a D' = 22 := e20
    have hBr := fun up => c_CheckBracket (gl := gl) up b f ring a D'
    rw [e20] at hBr
    have hRf := fun up => c_Refine (gl := gl) up b f ring a D'
    have e1 : refineR b f ring a D' = .tup [.agg [.int .i64 0, .int .i64 0], .int .i64 22] := by
      unfold refineR
      simp only
      rw [e20]; rfl
    rw [e1] at hRf
    refine mk h_nacellelaw03_RotorBrackets rfl rfl ?_
    conv => whnf
    repeat first
      | (show DRAW _ _ _ _ _; first | refine .mk 0 (by decide +kernel) ?_ | refine .mk 1 (by decide +kernel) ?_ | refine .mk 2 (by decide +kernel) ?_ | refine .mk 3 (by decide +kernel) ?_ | refine .mk 4 (by decide +kernel) ?_ | refine .mk 5 (by decide +kernel) ?_ | refine .mk 6 (by decide +kernel) ?_ | refine .mk 7 (by decide +kernel) ?_ | refine .mk 8 (by decide +kernel) ?_ | refine .mk 9 (by decide +kernel) ?_ | refine .mk 10 (by decide +kernel) ?_ | refine .mk 11 (by decide +kernel) ?_ | refine .mk 12 (by decide +kernel) ?_ | refine .mk 13 (by decide +kernel) ?_ | refine .mk 14 (by decide +kernel) ?_ | refine .mk 15 (by decide +kernel) ?_ | refine .mk 16 (by decide +kernel) ?_ | refine .mk 17 (by decide +kernel) ?_ | refine .mk 18 (by decide +kernel) ?_ | refine .mk 19 (by decide +kernel) ?_ | refine .mk 20 (by decide +kernel) ?_ | refine .mk 21 (by decide +kernel) ?_ | refine .mk 22 (by decide +kernel) ?_ | refine .mk 23 (by decide +kernel) ?_ | refine .mk 24 (by decide +kernel) ?_ | refine .mk 25 (by decide +kernel) ?_ | refine .mk 26 (by decide +kernel) ?_ | refine .mk 27 (by decide +kernel) ?_ | refine .mk 28 (by decide +kernel) ?_ | refine .mk 29 (by decide +kernel) ?_ | refine .mk 30 (by decide +kernel) ?_ | refine .mk 31 (by decide +kernel) ?_ | refine .mk 32 (by decide +kernel) ?_ | refine .mk 33 (by decide +kernel) ?_ | refine .mk 34 (by decide +kernel) ?_ | refine .mk 35 (by decide +kernel) ?_ | refine .mk 36 (by decide +kernel) ?_ | refine .mk 37 (by decide +kernel) ?_ | refine .mk 38 (by decide +kernel) ?_ | refine .mk 39 (by decide +kernel) ?_ | refine .mk 40 (by decide +kernel) ?_ | refine .mk 41 (by decide +kernel) ?_ | refine .mk 42 (by decide +kernel) ?_ | refine .mk 43 (by decide +kernel) ?_ | refine .mk 44 (by decide +kernel) ?_ | refine .mk 45 (by decide +kernel) ?_ | refine .mk 46 (by decide +kernel) ?_ | refine .mk 47 (by decide +kernel) ?_ | refine .mk 48 (by decide +kernel) ?_ | refine .mk 49 (by decide +kernel) ?_ | refine .mk 50 (by decide +kernel) ?_ | refine .mk 51 (by decide +kernel) ?_ | refine .mk 52 (by decide +kernel) ?_ | refine .mk 53 (by decide +kernel) ?_ | refine .mk 54 (by decide +kernel) ?_ | refine .mk 55 (by decide +kernel) ?_ | refine .mk 56 (by decide +kernel) ?_ | refine .mk 57 (by decide +kernel) ?_ | refine .mk 58 (by decide +kernel) ?_ | refine .mk 59 (by decide +kernel) ?_ | refine .mk 60 (by decide +kernel) ?_ | refine .mk 61 (by decide +kernel) ?_ | refine .mk 62 (by decide +kernel) ?_ | refine .mk 63 (by decide +kernel) ?_ | refine .mk 64 (by decide +kernel) ?_ | refine .mk 65 (by decide +kernel) ?_ | refine .mk 66 (by decide +kernel) ?_ | refine .mk 67 (by decide +kernel) ?_ | refine .mk 68 (by decide +kernel) ?_ | refine .mk 69 (by decide +kernel) ?_ | refine .mk 70 (by decide +kernel) ?_ | refine .mk 71 (by decide +kernel) ?_ | refine .mk 72 (by decide +kernel) ?_ | refine .mk 73 (by decide +kernel) ?_ | refine .mk 74 (by decide +kernel) ?_ | refine .mk 75 (by decide +kernel) ?_ | refine .mk 76 (by decide +kernel) ?_ | refine .mk 77 (by decide +kernel) ?_ | refine .mk 78 (by decide +kernel) ?_ | refine .mk 79 (by decide +kernel) ?_ | refine .mk 80 (by decide +kernel) ?_ | refine .mk 81 (by decide +kernel) ?_ | refine .mk 82 (by decide +kernel) ?_ | refine .mk 83 (by decide +kernel) ?_ | refine .mk 84 (by decide +kernel) ?_ | refine .mk 85 (by decide +kernel) ?_ | refine .mk 86 (by decide +kernel) ?_ | refine .mk 87 (by decide +kernel) ?_ | refine .mk 88 (by decide +kernel) ?_ | refine .mk 89 (by decide +kernel) ?_; conv => whnf)
      | (refine CALL0.cutBy lvBrackets _ _ _ _ _ (leL_refl _) (hA ..) rfl ?_; conv => whnf)
      | (refine CALL0.mk _ _ _ _ _ (leL_refl _) (hA ..) rfl ?_; conv => whnf)
      | (refine CALLQ.mk _ _ _ (leL_refl _) (hA ..) rfl ?_; conv => whnf)
      | (refine CALL0.cutBy lvBrackets _ _ _ _ _ (leL_refl _) (hS ..) rfl ?_; conv => whnf)
      | (refine CALL0.mk _ _ _ _ _ (leL_refl _) (hS ..) rfl ?_; conv => whnf)
      | (refine CALLQ.mk _ _ _ (leL_refl _) (hS ..) rfl ?_; conv => whnf)
      | (refine CALL0.cutBy lvBrackets _ _ _ _ _ (leL_refl _) (hb ..) rfl ?_; conv => whnf)
      | (refine CALL0.mk _ _ _ _ _ (leL_refl _) (hb ..) rfl ?_; conv => whnf)
      | (refine CALLQ.mk _ _ _ (leL_refl _) (hb ..) rfl ?_; conv => whnf)
      | (refine CALL0.cutBy lvBrackets _ _ _ _ _ (leL_refl _) (hFi ..) rfl ?_; conv => whnf)
      | (refine CALL0.mk _ _ _ _ _ (leL_refl _) (hFi ..) rfl ?_; conv => whnf)
      | (refine CALLQ.mk _ _ _ (leL_refl _) (hFi ..) rfl ?_; conv => whnf)
      | (refine CALL0.cutBy lvBrackets _ _ _ _ _ (leL_refl _) (hBr ..) rfl ?_; conv => whnf)
      | (refine CALL0.mk _ _ _ _ _ (leL_refl _) (hBr ..) rfl ?_; conv => whnf)
      | (refine CALLQ.mk _ _ _ (leL_refl _) (hBr ..) rfl ?_; conv => whnf)
      | (refine CALL0.cutBy lvBrackets _ _ _ _ _ (leL_refl _) (hRf ..) rfl ?_; conv => whnf)
      | (refine CALL0.mk _ _ _ _ _ (leL_refl _) (hRf ..) rfl ?_; conv => whnf)
      | (refine CALLQ.mk _ _ _ (leL_refl _) (hRf ..) rfl ?_; conv => whnf)
      | (refine CALL0.cutBy lvBrackets _ _ _ _ _ (leL_refl _) (hR2 ..) rfl ?_; conv => whnf)
      | (refine CALL0.mk _ _ _ _ _ (leL_refl _) (hR2 ..) rfl ?_; conv => whnf)
      | (refine CALLQ.mk _ _ _ (leL_refl _) (hR2 ..) rfl ?_; conv => whnf)
      | (refine CALL0.cutBy lvBrackets _ _ _ _ _ (leL_refl _) (c_rCheckInduction ..) rfl ?_; conv => whnf)
      | (refine CALL0.mk _ _ _ _ _ (leL_refl _) (c_rCheckInduction ..) rfl ?_; conv => whnf)
      | (refine CALLQ.mk _ _ _ (leL_refl _) (c_rCheckInduction ..) rfl ?_; conv => whnf)
      | (refine CALL0.cutBy lvBrackets _ _ _ _ _ (leL_refl _) (c_rCheckDepth ..) rfl ?_; conv => whnf)
      | (refine CALL0.mk _ _ _ _ _ (leL_refl _) (c_rCheckDepth ..) rfl ?_; conv => whnf)
      | (refine CALLQ.mk _ _ _ (leL_refl _) (c_rCheckDepth ..) rfl ?_; conv => whnf)
      | (refine CALL0.cutBy lvBrackets _ _ _ _ _ (leL_refl _) (hf1 ..) rfl ?_; conv => whnf)
      | (refine CALL0.mk _ _ _ _ _ (leL_refl _) (hf1 ..) rfl ?_; conv => whnf)
      | (refine CALLQ.mk _ _ _ (leL_refl _) (hf1 ..) rfl ?_; conv => whnf)
      | (refine CALL0.cutBy lvBrackets _ _ _ _ _ (leL_refl _) (hf2' ..) rfl ?_; conv => whnf)
      | (refine CALL0.mk _ _ _ _ _ (leL_refl _) (hf2' ..) rfl ?_; conv => whnf)
      | (refine CALLQ.mk _ _ _ (leL_refl _) (hf2' ..) rfl ?_; conv => whnf)
    split
    · rename_i h
      exact absurd h (by simp [zA])
    rename_i hN
    clear hN
    conv => whnf
    first
      | refine .mk 0 (by decide +kernel) ?_
      | refine .mk 1 (by decide +kernel) ?_
      | refine .mk 2 (by decide +kernel) ?_
      | refine .mk 3 (by decide +kernel) ?_
      | refine .mk 4 (by decide +kernel) ?_
      | refine .mk 5 (by decide +kernel) ?_
      | refine .mk 6 (by decide +kernel) ?_
      | refine .mk 7 (by decide +kernel) ?_
      | refine .mk 8 (by decide +kernel) ?_
      | refine .mk 9 (by decide +kernel) ?_
      | refine .mk 10 (by decide +kernel) ?_
      | refine .mk 11 (by decide +kernel) ?_
      | refine .mk 12 (by decide +kernel) ?_
      | refine .mk 13 (by decide +kernel) ?_
      | refine .mk 14 (by decide +kernel) ?_
      | refine .mk 15 (by decide +kernel) ?_
      | refine .mk 16 (by decide +kernel) ?_
      | refine .mk 17 (by decide +kernel) ?_
      | refine .mk 18 (by decide +kernel) ?_
      | refine .mk 19 (by decide +kernel) ?_
      | refine .mk 20 (by decide +kernel) ?_
      | refine .mk 21 (by decide +kernel) ?_
      | refine .mk 22 (by decide +kernel) ?_
      | refine .mk 23 (by decide +kernel) ?_
      | refine .mk 24 (by decide +kernel) ?_
      | refine .mk 25 (by decide +kernel) ?_
      | refine .mk 26 (by decide +kernel) ?_
      | refine .mk 27 (by decide +kernel) ?_
      | refine .mk 28 (by decide +kernel) ?_
      | refine .mk 29 (by decide +kernel) ?_
      | refine .mk 30 (by decide +kernel) ?_
      | refine .mk 31 (by decide +kernel) ?_
      | refine .mk 32 (by decide +kernel) ?_
      | refine .mk 33 (by decide +kernel) ?_
      | refine .mk 34 (by decide +kernel) ?_
      | refine .mk 35 (by decide +kernel) ?_
      | refine .mk 36 (by decide +kernel) ?_
      | refine .mk 37 (by decide +kernel) ?_
      | refine .mk 38 (by decide +kernel) ?_
      | refine .mk 39 (by decide +kernel) ?_
      | refine .mk 40 (by decide +kernel) ?_
      | refine .mk 41 (by decide +kernel) ?_
      | refine .mk 42 (by decide +kernel) ?_
      | refine .mk 43 (by decide +kernel) ?_
      | refine .mk 44 (by decide +kernel) ?_
      | refine .mk 45 (by decide +kernel) ?_
      | refine .mk 46 (by decide +kernel) ?_
      | refine .mk 47 (by decide +kernel) ?_
      | refine .mk 48 (by decide +kernel) ?_
      | refine .mk 49 (by decide +kernel) ?_
      | refine .mk 50 (by decide +kernel) ?_
      | refine .mk 51 (by decide +kernel) ?_
      | refine .mk 52 (by decide +kernel) ?_
      | refine .mk 53 (by decide +kernel) ?_
      | refine .mk 54 (by decide +kernel) ?_
      | refine .mk 55 (by decide +kernel) ?_
      | refine .mk 56 (by decide +kernel) ?_
      | refine .mk 57 (by decide +kernel) ?_
      | refine .mk 58 (by decide +kernel) ?_
      | refine .mk 59 (by decide +kernel) ?_
      | refine .mk 60 (by decide +kernel) ?_
      | refine .mk 61 (by decide +kernel) ?_
      | refine .mk 62 (by decide +kernel) ?_
      | refine .mk 63 (by decide +kernel) ?_
      | refine .mk 64 (by decide +kernel) ?_
      | refine .mk 65 (by decide +kernel) ?_
      | refine .mk 66 (by decide +kernel) ?_
      | refine .mk 67 (by decide +kernel) ?_
      | refine .mk 68 (by decide +kernel) ?_
      | refine .mk 69 (by decide +kernel) ?_
      | refine .mk 70 (by decide +kernel) ?_
      | refine .mk 71 (by decide +kernel) ?_
      | refine .mk 72 (by decide +kernel) ?_
      | refine .mk 73 (by decide +kernel) ?_
      | refine .mk 74 (by decide +kernel) ?_
      | refine .mk 75 (by decide +kernel) ?_
      | refine .mk 76 (by decide +kernel) ?_
      | refine .mk 77 (by decide +kernel) ?_
      | refine .mk 78 (by decide +kernel) ?_
      | refine .mk 79 (by decide +kernel) ?_
      | refine .mk 80 (by decide +kernel) ?_
      | refine .mk 81 (by decide +kernel) ?_
      | refine .mk 82 (by decide +kernel) ?_
      | refine .mk 83 (by decide +kernel) ?_
      | refine .mk 84 (by decide +kernel) ?_
      | refine .mk 85 (by decide +kernel) ?_
      | refine .mk 86 (by decide +kernel) ?_
      | refine .mk 87 (by decide +kernel) ?_
      | refine .mk 88 (by decide +kernel) ?_
      | refine .mk 89 (by decide +kernel) ?_
    conv => whnf
    split
    rotate_left
    · rename_i h
      exact absurd h (by simp [zB])
    conv => whnf
    split
    rotate_left
    · rename_i h
      have h' : decide (0 ≤ ring) = false := h
      simp at h' <;> omega
    conv => whnf
    split
    rotate_left
    · rename_i h
      have h' : decide (ring < b.nr) = false := h
      simp at h' <;> omega
    conv => whnf
    first | refine CALLQ.mk _ _ _ (leL_refl _) (hIB _) rfl ?_ | refine CALL0.cutBy lvBrackets _ _ _ _ _ (leL_refl _) (hIB _) rfl ?_ | refine CALL0.mk _ _ _ _ _ (leL_refl _) (hIB _) rfl ?_
    conv => whnf
    repeat first
      | exact ⟨rfl, rfl⟩
      | (split; rotate_left; (rename_i hz; exact absurd hz (by simp [zA])); (conv => whnf))
      | exact ⟨by simp [zA], rfl⟩
  | true =>
    rw [hib] at hIB e20
    have e20 : brErr b f ring a D' = 0 := e20
    have hBr := fun up => c_CheckBracket (gl := gl) up b f ring a D'
    rw [e20] at hBr
    have hRf := fun up => c_Refine (gl := gl) up b f ring a D'
    by_cases h12 : D' = 12
    · subst h12
      have e1 : refineR b f ring a (12 : Nat) = .tup [.agg [.int .i64 0, .int .i64 0], .int .i64 23] := by
        unfold refineR
        simp only
        rw [e20]; rfl
      rw [e1] at hRf
      refine mk h_nacellelaw03_RotorBrackets rfl rfl ?_
      conv => whnf
      repeat first
        | (show DRAW _ _ _ _ _; first | refine .mk 0 (by decide +kernel) ?_ | refine .mk 1 (by decide +kernel) ?_ | refine .mk 2 (by decide +kernel) ?_ | refine .mk 3 (by decide +kernel) ?_ | refine .mk 4 (by decide +kernel) ?_ | refine .mk 5 (by decide +kernel) ?_ | refine .mk 6 (by decide +kernel) ?_ | refine .mk 7 (by decide +kernel) ?_ | refine .mk 8 (by decide +kernel) ?_ | refine .mk 9 (by decide +kernel) ?_ | refine .mk 10 (by decide +kernel) ?_ | refine .mk 11 (by decide +kernel) ?_ | refine .mk 12 (by decide +kernel) ?_ | refine .mk 13 (by decide +kernel) ?_ | refine .mk 14 (by decide +kernel) ?_ | refine .mk 15 (by decide +kernel) ?_ | refine .mk 16 (by decide +kernel) ?_ | refine .mk 17 (by decide +kernel) ?_ | refine .mk 18 (by decide +kernel) ?_ | refine .mk 19 (by decide +kernel) ?_ | refine .mk 20 (by decide +kernel) ?_ | refine .mk 21 (by decide +kernel) ?_ | refine .mk 22 (by decide +kernel) ?_ | refine .mk 23 (by decide +kernel) ?_ | refine .mk 24 (by decide +kernel) ?_ | refine .mk 25 (by decide +kernel) ?_ | refine .mk 26 (by decide +kernel) ?_ | refine .mk 27 (by decide +kernel) ?_ | refine .mk 28 (by decide +kernel) ?_ | refine .mk 29 (by decide +kernel) ?_ | refine .mk 30 (by decide +kernel) ?_ | refine .mk 31 (by decide +kernel) ?_ | refine .mk 32 (by decide +kernel) ?_ | refine .mk 33 (by decide +kernel) ?_ | refine .mk 34 (by decide +kernel) ?_ | refine .mk 35 (by decide +kernel) ?_ | refine .mk 36 (by decide +kernel) ?_ | refine .mk 37 (by decide +kernel) ?_ | refine .mk 38 (by decide +kernel) ?_ | refine .mk 39 (by decide +kernel) ?_ | refine .mk 40 (by decide +kernel) ?_ | refine .mk 41 (by decide +kernel) ?_ | refine .mk 42 (by decide +kernel) ?_ | refine .mk 43 (by decide +kernel) ?_ | refine .mk 44 (by decide +kernel) ?_ | refine .mk 45 (by decide +kernel) ?_ | refine .mk 46 (by decide +kernel) ?_ | refine .mk 47 (by decide +kernel) ?_ | refine .mk 48 (by decide +kernel) ?_ | refine .mk 49 (by decide +kernel) ?_ | refine .mk 50 (by decide +kernel) ?_ | refine .mk 51 (by decide +kernel) ?_ | refine .mk 52 (by decide +kernel) ?_ | refine .mk 53 (by decide +kernel) ?_ | refine .mk 54 (by decide +kernel) ?_ | refine .mk 55 (by decide +kernel) ?_ | refine .mk 56 (by decide +kernel) ?_ | refine .mk 57 (by decide +kernel) ?_ | refine .mk 58 (by decide +kernel) ?_ | refine .mk 59 (by decide +kernel) ?_ | refine .mk 60 (by decide +kernel) ?_ | refine .mk 61 (by decide +kernel) ?_ | refine .mk 62 (by decide +kernel) ?_ | refine .mk 63 (by decide +kernel) ?_ | refine .mk 64 (by decide +kernel) ?_ | refine .mk 65 (by decide +kernel) ?_ | refine .mk 66 (by decide +kernel) ?_ | refine .mk 67 (by decide +kernel) ?_ | refine .mk 68 (by decide +kernel) ?_ | refine .mk 69 (by decide +kernel) ?_ | refine .mk 70 (by decide +kernel) ?_ | refine .mk 71 (by decide +kernel) ?_ | refine .mk 72 (by decide +kernel) ?_ | refine .mk 73 (by decide +kernel) ?_ | refine .mk 74 (by decide +kernel) ?_ | refine .mk 75 (by decide +kernel) ?_ | refine .mk 76 (by decide +kernel) ?_ | refine .mk 77 (by decide +kernel) ?_ | refine .mk 78 (by decide +kernel) ?_ | refine .mk 79 (by decide +kernel) ?_ | refine .mk 80 (by decide +kernel) ?_ | refine .mk 81 (by decide +kernel) ?_ | refine .mk 82 (by decide +kernel) ?_ | refine .mk 83 (by decide +kernel) ?_ | refine .mk 84 (by decide +kernel) ?_ | refine .mk 85 (by decide +kernel) ?_ | refine .mk 86 (by decide +kernel) ?_ | refine .mk 87 (by decide +kernel) ?_ | refine .mk 88 (by decide +kernel) ?_ | refine .mk 89 (by decide +kernel) ?_; conv => whnf)
        | (refine CALL0.cutBy lvBrackets _ _ _ _ _ (leL_refl _) (hA ..) rfl ?_; conv => whnf)
        | (refine CALL0.mk _ _ _ _ _ (leL_refl _) (hA ..) rfl ?_; conv => whnf)
        | (refine CALLQ.mk _ _ _ (leL_refl _) (hA ..) rfl ?_; conv => whnf)
        | (refine CALL0.cutBy lvBrackets _ _ _ _ _ (leL_refl _) (hS ..) rfl ?_; conv => whnf)
        | (refine CALL0.mk _ _ _ _ _ (leL_refl _) (hS ..) rfl ?_; conv => whnf)
        | (refine CALLQ.mk _ _ _ (leL_refl _) (hS ..) rfl ?_; conv => whnf)
        | (refine CALL0.cutBy lvBrackets _ _ _ _ _ (leL_refl _) (hb ..) rfl ?_; conv => whnf)
        | (refine CALL0.mk _ _ _ _ _ (leL_refl _) (hb ..) rfl ?_; conv => whnf)
        | (refine CALLQ.mk _ _ _ (leL_refl _) (hb ..) rfl ?_; conv => whnf)
        | (refine CALL0.cutBy lvBrackets _ _ _ _ _ (leL_refl _) (hFi ..) rfl ?_; conv => whnf)
        | (refine CALL0.mk _ _ _ _ _ (leL_refl _) (hFi ..) rfl ?_; conv => whnf)
        | (refine CALLQ.mk _ _ _ (leL_refl _) (hFi ..) rfl ?_; conv => whnf)
        | (refine CALL0.cutBy lvBrackets _ _ _ _ _ (leL_refl _) (hBr ..) rfl ?_; conv => whnf)
        | (refine CALL0.mk _ _ _ _ _ (leL_refl _) (hBr ..) rfl ?_; conv => whnf)
        | (refine CALLQ.mk _ _ _ (leL_refl _) (hBr ..) rfl ?_; conv => whnf)
        | (refine CALL0.cutBy lvBrackets _ _ _ _ _ (leL_refl _) (hRf ..) rfl ?_; conv => whnf)
        | (refine CALL0.mk _ _ _ _ _ (leL_refl _) (hRf ..) rfl ?_; conv => whnf)
        | (refine CALLQ.mk _ _ _ (leL_refl _) (hRf ..) rfl ?_; conv => whnf)
        | (refine CALL0.cutBy lvBrackets _ _ _ _ _ (leL_refl _) (hR2 ..) rfl ?_; conv => whnf)
        | (refine CALL0.mk _ _ _ _ _ (leL_refl _) (hR2 ..) rfl ?_; conv => whnf)
        | (refine CALLQ.mk _ _ _ (leL_refl _) (hR2 ..) rfl ?_; conv => whnf)
        | (refine CALL0.cutBy lvBrackets _ _ _ _ _ (leL_refl _) (c_rCheckInduction ..) rfl ?_; conv => whnf)
        | (refine CALL0.mk _ _ _ _ _ (leL_refl _) (c_rCheckInduction ..) rfl ?_; conv => whnf)
        | (refine CALLQ.mk _ _ _ (leL_refl _) (c_rCheckInduction ..) rfl ?_; conv => whnf)
        | (refine CALL0.cutBy lvBrackets _ _ _ _ _ (leL_refl _) (c_rCheckDepth ..) rfl ?_; conv => whnf)
        | (refine CALL0.mk _ _ _ _ _ (leL_refl _) (c_rCheckDepth ..) rfl ?_; conv => whnf)
        | (refine CALLQ.mk _ _ _ (leL_refl _) (c_rCheckDepth ..) rfl ?_; conv => whnf)
        | (refine CALL0.cutBy lvBrackets _ _ _ _ _ (leL_refl _) (hf1 ..) rfl ?_; conv => whnf)
        | (refine CALL0.mk _ _ _ _ _ (leL_refl _) (hf1 ..) rfl ?_; conv => whnf)
        | (refine CALLQ.mk _ _ _ (leL_refl _) (hf1 ..) rfl ?_; conv => whnf)
        | (refine CALL0.cutBy lvBrackets _ _ _ _ _ (leL_refl _) (hf2' ..) rfl ?_; conv => whnf)
        | (refine CALL0.mk _ _ _ _ _ (leL_refl _) (hf2' ..) rfl ?_; conv => whnf)
        | (refine CALLQ.mk _ _ _ (leL_refl _) (hf2' ..) rfl ?_; conv => whnf)
      split
      · rename_i h
        exact absurd h (by simp [zA])
      rename_i hN
      clear hN
      conv => whnf
      first
        | refine .mk 0 (by decide +kernel) ?_
        | refine .mk 1 (by decide +kernel) ?_
        | refine .mk 2 (by decide +kernel) ?_
        | refine .mk 3 (by decide +kernel) ?_
        | refine .mk 4 (by decide +kernel) ?_
        | refine .mk 5 (by decide +kernel) ?_
        | refine .mk 6 (by decide +kernel) ?_
        | refine .mk 7 (by decide +kernel) ?_
        | refine .mk 8 (by decide +kernel) ?_
        | refine .mk 9 (by decide +kernel) ?_
        | refine .mk 10 (by decide +kernel) ?_
        | refine .mk 11 (by decide +kernel) ?_
        | refine .mk 12 (by decide +kernel) ?_
        | refine .mk 13 (by decide +kernel) ?_
        | refine .mk 14 (by decide +kernel) ?_
        | refine .mk 15 (by decide +kernel) ?_
        | refine .mk 16 (by decide +kernel) ?_
        | refine .mk 17 (by decide +kernel) ?_
        | refine .mk 18 (by decide +kernel) ?_
        | refine .mk 19 (by decide +kernel) ?_
        | refine .mk 20 (by decide +kernel) ?_
        | refine .mk 21 (by decide +kernel) ?_
        | refine .mk 22 (by decide +kernel) ?_
        | refine .mk 23 (by decide +kernel) ?_
        | refine .mk 24 (by decide +kernel) ?_
        | refine .mk 25 (by decide +kernel) ?_
        | refine .mk 26 (by decide +kernel) ?_
        | refine .mk 27 (by decide +kernel) ?_
        | refine .mk 28 (by decide +kernel) ?_
        | refine .mk 29 (by decide +kernel) ?_
        | refine .mk 30 (by decide +kernel) ?_
        | refine .mk 31 (by decide +kernel) ?_
        | refine .mk 32 (by decide +kernel) ?_
        | refine .mk 33 (by decide +kernel) ?_
        | refine .mk 34 (by decide +kernel) ?_
        | refine .mk 35 (by decide +kernel) ?_
        | refine .mk 36 (by decide +kernel) ?_
        | refine .mk 37 (by decide +kernel) ?_
        | refine .mk 38 (by decide +kernel) ?_
        | refine .mk 39 (by decide +kernel) ?_
        | refine .mk 40 (by decide +kernel) ?_
        | refine .mk 41 (by decide +kernel) ?_
        | refine .mk 42 (by decide +kernel) ?_
        | refine .mk 43 (by decide +kernel) ?_
        | refine .mk 44 (by decide +kernel) ?_
        | refine .mk 45 (by decide +kernel) ?_
        | refine .mk 46 (by decide +kernel) ?_
        | refine .mk 47 (by decide +kernel) ?_
        | refine .mk 48 (by decide +kernel) ?_
        | refine .mk 49 (by decide +kernel) ?_
        | refine .mk 50 (by decide +kernel) ?_
        | refine .mk 51 (by decide +kernel) ?_
        | refine .mk 52 (by decide +kernel) ?_
        | refine .mk 53 (by decide +kernel) ?_
        | refine .mk 54 (by decide +kernel) ?_
        | refine .mk 55 (by decide +kernel) ?_
        | refine .mk 56 (by decide +kernel) ?_
        | refine .mk 57 (by decide +kernel) ?_
        | refine .mk 58 (by decide +kernel) ?_
        | refine .mk 59 (by decide +kernel) ?_
        | refine .mk 60 (by decide +kernel) ?_
        | refine .mk 61 (by decide +kernel) ?_
        | refine .mk 62 (by decide +kernel) ?_
        | refine .mk 63 (by decide +kernel) ?_
        | refine .mk 64 (by decide +kernel) ?_
        | refine .mk 65 (by decide +kernel) ?_
        | refine .mk 66 (by decide +kernel) ?_
        | refine .mk 67 (by decide +kernel) ?_
        | refine .mk 68 (by decide +kernel) ?_
        | refine .mk 69 (by decide +kernel) ?_
        | refine .mk 70 (by decide +kernel) ?_
        | refine .mk 71 (by decide +kernel) ?_
        | refine .mk 72 (by decide +kernel) ?_
        | refine .mk 73 (by decide +kernel) ?_
        | refine .mk 74 (by decide +kernel) ?_
        | refine .mk 75 (by decide +kernel) ?_
        | refine .mk 76 (by decide +kernel) ?_
        | refine .mk 77 (by decide +kernel) ?_
        | refine .mk 78 (by decide +kernel) ?_
        | refine .mk 79 (by decide +kernel) ?_
        | refine .mk 80 (by decide +kernel) ?_
        | refine .mk 81 (by decide +kernel) ?_
        | refine .mk 82 (by decide +kernel) ?_
        | refine .mk 83 (by decide +kernel) ?_
        | refine .mk 84 (by decide +kernel) ?_
        | refine .mk 85 (by decide +kernel) ?_
        | refine .mk 86 (by decide +kernel) ?_
        | refine .mk 87 (by decide +kernel) ?_
        | refine .mk 88 (by decide +kernel) ?_
        | refine .mk 89 (by decide +kernel) ?_
      conv => whnf
      split
      rotate_left
      · rename_i h
        exact absurd h (by simp [zB])
      conv => whnf
      split
      rotate_left
      · rename_i h
        have h' : decide (0 ≤ ring) = false := h
        simp at h' <;> omega
      conv => whnf
      split
      rotate_left
      · rename_i h
        have h' : decide (ring < b.nr) = false := h
        simp at h' <;> omega
      conv => whnf
      first | refine CALLQ.mk _ _ _ (leL_refl _) (hIB _) rfl ?_ | refine CALL0.cutBy lvBrackets _ _ _ _ _ (leL_refl _) (hIB _) rfl ?_ | refine CALL0.mk _ _ _ _ _ (leL_refl _) (hIB _) rfl ?_
      conv => whnf
      split
      rotate_left
      · rename_i h
        exact absurd h (by simp [zB])
      conv => whnf
      repeat first
        | exact ⟨rfl, rfl⟩
        | (split; rotate_left; (rename_i hz; exact absurd hz (by simp [zA, zB])); (conv => whnf))
        | exact ⟨by simp [zA, zB], rfl⟩
    · obtain ⟨n, rfl⟩ : ∃ n, D' = n + 1 := ⟨D' - 1, by omega⟩
      have hsm := (isBr_iff' ok a0).1 hib
      have hsS : (b.br f ring.toNat n).isSome = true := by rw [hsm]; rfl
      have hat : b.at f ring.toNat n = a := by unfold Bl.at; rw [hsm]; rfl
      have hrf := refineR_ok (b := b) (f := f) ⟨gB.1, gB.2⟩ (show ring.toNat < b.nr by omega) (show n + 1 < 12 by omega) hsS
      rw [hat, show ((ring.toNat : Nat) : Int) = ring by omega] at hrf
      rw [hrf] at hRf
      have hf2 := fun up => c_rFind (gl := gl) up b f ring.toNat ok (n + 1) (by omega)
      rw [br_at (br_some_all hsS (n + 1))] at hf2
      have ew : w64 (((n + 1 : Nat) : Int) + 1) = ((n + 1 + 1 : Nat) : Int) := by rw [w64, wrap_in] <;> omega
      rw [← ew] at hf2
      have ew2 : w64 ((n : Int) + 1 + 1) = (n : Int) + 1 + 1 := by rw [w64, wrap_in] <;> omega
      have q12 : (((n + 1 : Nat) : Int) == 12) = false := by simp; omega
      refine mk h_nacellelaw03_RotorBrackets rfl rfl ?_
      conv => whnf
      repeat first
        | (show DRAW _ _ _ _ _; first | refine .mk 0 (by decide +kernel) ?_ | refine .mk 1 (by decide +kernel) ?_ | refine .mk 2 (by decide +kernel) ?_ | refine .mk 3 (by decide +kernel) ?_ | refine .mk 4 (by decide +kernel) ?_ | refine .mk 5 (by decide +kernel) ?_ | refine .mk 6 (by decide +kernel) ?_ | refine .mk 7 (by decide +kernel) ?_ | refine .mk 8 (by decide +kernel) ?_ | refine .mk 9 (by decide +kernel) ?_ | refine .mk 10 (by decide +kernel) ?_ | refine .mk 11 (by decide +kernel) ?_ | refine .mk 12 (by decide +kernel) ?_ | refine .mk 13 (by decide +kernel) ?_ | refine .mk 14 (by decide +kernel) ?_ | refine .mk 15 (by decide +kernel) ?_ | refine .mk 16 (by decide +kernel) ?_ | refine .mk 17 (by decide +kernel) ?_ | refine .mk 18 (by decide +kernel) ?_ | refine .mk 19 (by decide +kernel) ?_ | refine .mk 20 (by decide +kernel) ?_ | refine .mk 21 (by decide +kernel) ?_ | refine .mk 22 (by decide +kernel) ?_ | refine .mk 23 (by decide +kernel) ?_ | refine .mk 24 (by decide +kernel) ?_ | refine .mk 25 (by decide +kernel) ?_ | refine .mk 26 (by decide +kernel) ?_ | refine .mk 27 (by decide +kernel) ?_ | refine .mk 28 (by decide +kernel) ?_ | refine .mk 29 (by decide +kernel) ?_ | refine .mk 30 (by decide +kernel) ?_ | refine .mk 31 (by decide +kernel) ?_ | refine .mk 32 (by decide +kernel) ?_ | refine .mk 33 (by decide +kernel) ?_ | refine .mk 34 (by decide +kernel) ?_ | refine .mk 35 (by decide +kernel) ?_ | refine .mk 36 (by decide +kernel) ?_ | refine .mk 37 (by decide +kernel) ?_ | refine .mk 38 (by decide +kernel) ?_ | refine .mk 39 (by decide +kernel) ?_ | refine .mk 40 (by decide +kernel) ?_ | refine .mk 41 (by decide +kernel) ?_ | refine .mk 42 (by decide +kernel) ?_ | refine .mk 43 (by decide +kernel) ?_ | refine .mk 44 (by decide +kernel) ?_ | refine .mk 45 (by decide +kernel) ?_ | refine .mk 46 (by decide +kernel) ?_ | refine .mk 47 (by decide +kernel) ?_ | refine .mk 48 (by decide +kernel) ?_ | refine .mk 49 (by decide +kernel) ?_ | refine .mk 50 (by decide +kernel) ?_ | refine .mk 51 (by decide +kernel) ?_ | refine .mk 52 (by decide +kernel) ?_ | refine .mk 53 (by decide +kernel) ?_ | refine .mk 54 (by decide +kernel) ?_ | refine .mk 55 (by decide +kernel) ?_ | refine .mk 56 (by decide +kernel) ?_ | refine .mk 57 (by decide +kernel) ?_ | refine .mk 58 (by decide +kernel) ?_ | refine .mk 59 (by decide +kernel) ?_ | refine .mk 60 (by decide +kernel) ?_ | refine .mk 61 (by decide +kernel) ?_ | refine .mk 62 (by decide +kernel) ?_ | refine .mk 63 (by decide +kernel) ?_ | refine .mk 64 (by decide +kernel) ?_ | refine .mk 65 (by decide +kernel) ?_ | refine .mk 66 (by decide +kernel) ?_ | refine .mk 67 (by decide +kernel) ?_ | refine .mk 68 (by decide +kernel) ?_ | refine .mk 69 (by decide +kernel) ?_ | refine .mk 70 (by decide +kernel) ?_ | refine .mk 71 (by decide +kernel) ?_ | refine .mk 72 (by decide +kernel) ?_ | refine .mk 73 (by decide +kernel) ?_ | refine .mk 74 (by decide +kernel) ?_ | refine .mk 75 (by decide +kernel) ?_ | refine .mk 76 (by decide +kernel) ?_ | refine .mk 77 (by decide +kernel) ?_ | refine .mk 78 (by decide +kernel) ?_ | refine .mk 79 (by decide +kernel) ?_ | refine .mk 80 (by decide +kernel) ?_ | refine .mk 81 (by decide +kernel) ?_ | refine .mk 82 (by decide +kernel) ?_ | refine .mk 83 (by decide +kernel) ?_ | refine .mk 84 (by decide +kernel) ?_ | refine .mk 85 (by decide +kernel) ?_ | refine .mk 86 (by decide +kernel) ?_ | refine .mk 87 (by decide +kernel) ?_ | refine .mk 88 (by decide +kernel) ?_ | refine .mk 89 (by decide +kernel) ?_; conv => whnf)
        | (refine CALL0.cutBy lvBrackets _ _ _ _ _ (leL_refl _) (hA ..) rfl ?_; conv => whnf)
        | (refine CALL0.mk _ _ _ _ _ (leL_refl _) (hA ..) rfl ?_; conv => whnf)
        | (refine CALLQ.mk _ _ _ (leL_refl _) (hA ..) rfl ?_; conv => whnf)
        | (refine CALL0.cutBy lvBrackets _ _ _ _ _ (leL_refl _) (hS ..) rfl ?_; conv => whnf)
        | (refine CALL0.mk _ _ _ _ _ (leL_refl _) (hS ..) rfl ?_; conv => whnf)
        | (refine CALLQ.mk _ _ _ (leL_refl _) (hS ..) rfl ?_; conv => whnf)
        | (refine CALL0.cutBy lvBrackets _ _ _ _ _ (leL_refl _) (hb ..) rfl ?_; conv => whnf)
        | (refine CALL0.mk _ _ _ _ _ (leL_refl _) (hb ..) rfl ?_; conv => whnf)
        | (refine CALLQ.mk _ _ _ (leL_refl _) (hb ..) rfl ?_; conv => whnf)
        | (refine CALL0.cutBy lvBrackets _ _ _ _ _ (leL_refl _) (hFi ..) rfl ?_; conv => whnf)
        | (refine CALL0.mk _ _ _ _ _ (leL_refl _) (hFi ..) rfl ?_; conv => whnf)
        | (refine CALLQ.mk _ _ _ (leL_refl _) (hFi ..) rfl ?_; conv => whnf)
        | (refine CALL0.cutBy lvBrackets _ _ _ _ _ (leL_refl _) (hBr ..) rfl ?_; conv => whnf)
        | (refine CALL0.mk _ _ _ _ _ (leL_refl _) (hBr ..) rfl ?_; conv => whnf)
        | (refine CALLQ.mk _ _ _ (leL_refl _) (hBr ..) rfl ?_; conv => whnf)
        | (refine CALL0.cutBy lvBrackets _ _ _ _ _ (leL_refl _) (hRf ..) rfl ?_; conv => whnf)
        | (refine CALL0.mk _ _ _ _ _ (leL_refl _) (hRf ..) rfl ?_; conv => whnf)
        | (refine CALLQ.mk _ _ _ (leL_refl _) (hRf ..) rfl ?_; conv => whnf)
        | (refine CALL0.cutBy lvBrackets _ _ _ _ _ (leL_refl _) (hR2 ..) rfl ?_; conv => whnf)
        | (refine CALL0.mk _ _ _ _ _ (leL_refl _) (hR2 ..) rfl ?_; conv => whnf)
        | (refine CALLQ.mk _ _ _ (leL_refl _) (hR2 ..) rfl ?_; conv => whnf)
        | (refine CALL0.cutBy lvBrackets _ _ _ _ _ (leL_refl _) (c_rCheckInduction ..) rfl ?_; conv => whnf)
        | (refine CALL0.mk _ _ _ _ _ (leL_refl _) (c_rCheckInduction ..) rfl ?_; conv => whnf)
        | (refine CALLQ.mk _ _ _ (leL_refl _) (c_rCheckInduction ..) rfl ?_; conv => whnf)
        | (refine CALL0.cutBy lvBrackets _ _ _ _ _ (leL_refl _) (c_rCheckDepth ..) rfl ?_; conv => whnf)
        | (refine CALL0.mk _ _ _ _ _ (leL_refl _) (c_rCheckDepth ..) rfl ?_; conv => whnf)
        | (refine CALLQ.mk _ _ _ (leL_refl _) (c_rCheckDepth ..) rfl ?_; conv => whnf)
        | (refine CALL0.cutBy lvBrackets _ _ _ _ _ (leL_refl _) (hf1 ..) rfl ?_; conv => whnf)
        | (refine CALL0.mk _ _ _ _ _ (leL_refl _) (hf1 ..) rfl ?_; conv => whnf)
        | (refine CALLQ.mk _ _ _ (leL_refl _) (hf1 ..) rfl ?_; conv => whnf)
        | (refine CALL0.cutBy lvBrackets _ _ _ _ _ (leL_refl _) (hf2' ..) rfl ?_; conv => whnf)
        | (refine CALL0.mk _ _ _ _ _ (leL_refl _) (hf2' ..) rfl ?_; conv => whnf)
        | (refine CALLQ.mk _ _ _ (leL_refl _) (hf2' ..) rfl ?_; conv => whnf)
      split
      · rename_i h
        exact absurd h (by simp [zA])
      rename_i hN
      clear hN
      conv => whnf
      first
        | refine .mk 0 (by decide +kernel) ?_
        | refine .mk 1 (by decide +kernel) ?_
        | refine .mk 2 (by decide +kernel) ?_
        | refine .mk 3 (by decide +kernel) ?_
        | refine .mk 4 (by decide +kernel) ?_
        | refine .mk 5 (by decide +kernel) ?_
        | refine .mk 6 (by decide +kernel) ?_
        | refine .mk 7 (by decide +kernel) ?_
        | refine .mk 8 (by decide +kernel) ?_
        | refine .mk 9 (by decide +kernel) ?_
        | refine .mk 10 (by decide +kernel) ?_
        | refine .mk 11 (by decide +kernel) ?_
        | refine .mk 12 (by decide +kernel) ?_
        | refine .mk 13 (by decide +kernel) ?_
        | refine .mk 14 (by decide +kernel) ?_
        | refine .mk 15 (by decide +kernel) ?_
        | refine .mk 16 (by decide +kernel) ?_
        | refine .mk 17 (by decide +kernel) ?_
        | refine .mk 18 (by decide +kernel) ?_
        | refine .mk 19 (by decide +kernel) ?_
        | refine .mk 20 (by decide +kernel) ?_
        | refine .mk 21 (by decide +kernel) ?_
        | refine .mk 22 (by decide +kernel) ?_
        | refine .mk 23 (by decide +kernel) ?_
        | refine .mk 24 (by decide +kernel) ?_
        | refine .mk 25 (by decide +kernel) ?_
        | refine .mk 26 (by decide +kernel) ?_
        | refine .mk 27 (by decide +kernel) ?_
        | refine .mk 28 (by decide +kernel) ?_
        | refine .mk 29 (by decide +kernel) ?_
        | refine .mk 30 (by decide +kernel) ?_
        | refine .mk 31 (by decide +kernel) ?_
        | refine .mk 32 (by decide +kernel) ?_
        | refine .mk 33 (by decide +kernel) ?_
        | refine .mk 34 (by decide +kernel) ?_
        | refine .mk 35 (by decide +kernel) ?_
        | refine .mk 36 (by decide +kernel) ?_
        | refine .mk 37 (by decide +kernel) ?_
        | refine .mk 38 (by decide +kernel) ?_
        | refine .mk 39 (by decide +kernel) ?_
        | refine .mk 40 (by decide +kernel) ?_
        | refine .mk 41 (by decide +kernel) ?_
        | refine .mk 42 (by decide +kernel) ?_
        | refine .mk 43 (by decide +kernel) ?_
        | refine .mk 44 (by decide +kernel) ?_
        | refine .mk 45 (by decide +kernel) ?_
        | refine .mk 46 (by decide +kernel) ?_
        | refine .mk 47 (by decide +kernel) ?_
        | refine .mk 48 (by decide +kernel) ?_
        | refine .mk 49 (by decide +kernel) ?_
        | refine .mk 50 (by decide +kernel) ?_
        | refine .mk 51 (by decide +kernel) ?_
        | refine .mk 52 (by decide +kernel) ?_
        | refine .mk 53 (by decide +kernel) ?_
        | refine .mk 54 (by decide +kernel) ?_
        | refine .mk 55 (by decide +kernel) ?_
        | refine .mk 56 (by decide +kernel) ?_
        | refine .mk 57 (by decide +kernel) ?_
        | refine .mk 58 (by decide +kernel) ?_
        | refine .mk 59 (by decide +kernel) ?_
        | refine .mk 60 (by decide +kernel) ?_
        | refine .mk 61 (by decide +kernel) ?_
        | refine .mk 62 (by decide +kernel) ?_
        | refine .mk 63 (by decide +kernel) ?_
        | refine .mk 64 (by decide +kernel) ?_
        | refine .mk 65 (by decide +kernel) ?_
        | refine .mk 66 (by decide +kernel) ?_
        | refine .mk 67 (by decide +kernel) ?_
        | refine .mk 68 (by decide +kernel) ?_
        | refine .mk 69 (by decide +kernel) ?_
        | refine .mk 70 (by decide +kernel) ?_
        | refine .mk 71 (by decide +kernel) ?_
        | refine .mk 72 (by decide +kernel) ?_
        | refine .mk 73 (by decide +kernel) ?_
        | refine .mk 74 (by decide +kernel) ?_
        | refine .mk 75 (by decide +kernel) ?_
        | refine .mk 76 (by decide +kernel) ?_
        | refine .mk 77 (by decide +kernel) ?_
        | refine .mk 78 (by decide +kernel) ?_
        | refine .mk 79 (by decide +kernel) ?_
        | refine .mk 80 (by decide +kernel) ?_
        | refine .mk 81 (by decide +kernel) ?_
        | refine .mk 82 (by decide +kernel) ?_
        | refine .mk 83 (by decide +kernel) ?_
        | refine .mk 84 (by decide +kernel) ?_
        | refine .mk 85 (by decide +kernel) ?_
        | refine .mk 86 (by decide +kernel) ?_
        | refine .mk 87 (by decide +kernel) ?_
        | refine .mk 88 (by decide +kernel) ?_
        | refine .mk 89 (by decide +kernel) ?_
      conv => whnf
      split
      rotate_left
      · rename_i h
        exact absurd h (by simp [zB])
      conv => whnf
      split
      rotate_left
      · rename_i h
        have h' : decide (0 ≤ ring) = false := h
        simp at h' <;> omega
      conv => whnf
      split
      rotate_left
      · rename_i h
        have h' : decide (ring < b.nr) = false := h
        simp at h' <;> omega
      conv => whnf
      first | refine CALLQ.mk _ _ _ (leL_refl _) (hIB _) rfl ?_ | refine CALL0.cutBy lvBrackets _ _ _ _ _ (leL_refl _) (hIB _) rfl ?_ | refine CALL0.mk _ _ _ _ _ (leL_refl _) (hIB _) rfl ?_
      conv => whnf
      split
      rotate_left
      · rename_i h
        exact absurd h (by simp [zB])
      conv => whnf
      split
      · rename_i h
        exact Bool.noConfusion ((q12).symm.trans h)
      rename_i hN
      clear hN
      conv => whnf
      split
      rotate_left
      · rename_i h
        exact absurd h (by simp [zB])
      conv => whnf
      first
        | refine .mk 0 (by decide +kernel) ?_
        | refine .mk 1 (by decide +kernel) ?_
        | refine .mk 2 (by decide +kernel) ?_
        | refine .mk 3 (by decide +kernel) ?_
        | refine .mk 4 (by decide +kernel) ?_
        | refine .mk 5 (by decide +kernel) ?_
        | refine .mk 6 (by decide +kernel) ?_
        | refine .mk 7 (by decide +kernel) ?_
        | refine .mk 8 (by decide +kernel) ?_
        | refine .mk 9 (by decide +kernel) ?_
        | refine .mk 10 (by decide +kernel) ?_
        | refine .mk 11 (by decide +kernel) ?_
        | refine .mk 12 (by decide +kernel) ?_
        | refine .mk 13 (by decide +kernel) ?_
        | refine .mk 14 (by decide +kernel) ?_
        | refine .mk 15 (by decide +kernel) ?_
        | refine .mk 16 (by decide +kernel) ?_
        | refine .mk 17 (by decide +kernel) ?_
        | refine .mk 18 (by decide +kernel) ?_
        | refine .mk 19 (by decide +kernel) ?_
        | refine .mk 20 (by decide +kernel) ?_
        | refine .mk 21 (by decide +kernel) ?_
        | refine .mk 22 (by decide +kernel) ?_
        | refine .mk 23 (by decide +kernel) ?_
        | refine .mk 24 (by decide +kernel) ?_
        | refine .mk 25 (by decide +kernel) ?_
        | refine .mk 26 (by decide +kernel) ?_
        | refine .mk 27 (by decide +kernel) ?_
        | refine .mk 28 (by decide +kernel) ?_
        | refine .mk 29 (by decide +kernel) ?_
        | refine .mk 30 (by decide +kernel) ?_
        | refine .mk 31 (by decide +kernel) ?_
        | refine .mk 32 (by decide +kernel) ?_
        | refine .mk 33 (by decide +kernel) ?_
        | refine .mk 34 (by decide +kernel) ?_
        | refine .mk 35 (by decide +kernel) ?_
        | refine .mk 36 (by decide +kernel) ?_
        | refine .mk 37 (by decide +kernel) ?_
        | refine .mk 38 (by decide +kernel) ?_
        | refine .mk 39 (by decide +kernel) ?_
        | refine .mk 40 (by decide +kernel) ?_
        | refine .mk 41 (by decide +kernel) ?_
        | refine .mk 42 (by decide +kernel) ?_
        | refine .mk 43 (by decide +kernel) ?_
        | refine .mk 44 (by decide +kernel) ?_
        | refine .mk 45 (by decide +kernel) ?_
        | refine .mk 46 (by decide +kernel) ?_
        | refine .mk 47 (by decide +kernel) ?_
        | refine .mk 48 (by decide +kernel) ?_
        | refine .mk 49 (by decide +kernel) ?_
        | refine .mk 50 (by decide +kernel) ?_
        | refine .mk 51 (by decide +kernel) ?_
        | refine .mk 52 (by decide +kernel) ?_
        | refine .mk 53 (by decide +kernel) ?_
        | refine .mk 54 (by decide +kernel) ?_
        | refine .mk 55 (by decide +kernel) ?_
        | refine .mk 56 (by decide +kernel) ?_
        | refine .mk 57 (by decide +kernel) ?_
        | refine .mk 58 (by decide +kernel) ?_
        | refine .mk 59 (by decide +kernel) ?_
        | refine .mk 60 (by decide +kernel) ?_
        | refine .mk 61 (by decide +kernel) ?_
        | refine .mk 62 (by decide +kernel) ?_
        | refine .mk 63 (by decide +kernel) ?_
        | refine .mk 64 (by decide +kernel) ?_
        | refine .mk 65 (by decide +kernel) ?_
        | refine .mk 66 (by decide +kernel) ?_
        | refine .mk 67 (by decide +kernel) ?_
        | refine .mk 68 (by decide +kernel) ?_
        | refine .mk 69 (by decide +kernel) ?_
        | refine .mk 70 (by decide +kernel) ?_
        | refine .mk 71 (by decide +kernel) ?_
        | refine .mk 72 (by decide +kernel) ?_
        | refine .mk 73 (by decide +kernel) ?_
        | refine .mk 74 (by decide +kernel) ?_
        | refine .mk 75 (by decide +kernel) ?_
        | refine .mk 76 (by decide +kernel) ?_
        | refine .mk 77 (by decide +kernel) ?_
        | refine .mk 78 (by decide +kernel) ?_
        | refine .mk 79 (by decide +kernel) ?_
        | refine .mk 80 (by decide +kernel) ?_
        | refine .mk 81 (by decide +kernel) ?_
        | refine .mk 82 (by decide +kernel) ?_
        | refine .mk 83 (by decide +kernel) ?_
        | refine .mk 84 (by decide +kernel) ?_
        | refine .mk 85 (by decide +kernel) ?_
        | refine .mk 86 (by decide +kernel) ?_
        | refine .mk 87 (by decide +kernel) ?_
        | refine .mk 88 (by decide +kernel) ?_
        | refine .mk 89 (by decide +kernel) ?_
      conv => whnf
      split
      rotate_left
      · rename_i h
        have h' : decide (0 ≤ ring) = false := h
        simp at h' <;> omega
      conv => whnf
      split
      rotate_left
      · rename_i h
        have h' : decide (ring < b.nr) = false := h
        simp at h' <;> omega
      conv => whnf
      first | refine CALLQ.mk _ _ _ (leL_refl _) (hf2 _) rfl ?_ | refine CALL0.cutBy lvBrackets _ _ _ _ _ (leL_refl _) (hf2 _) rfl ?_ | refine CALL0.mk _ _ _ _ _ (leL_refl _) (hf2 _) rfl ?_
      conv => whnf
      repeat first
        | exact ⟨rfl, rfl⟩
        | (split; rotate_left; (rename_i hz; exact absurd hz (by simp [zA, zB, ew2])); (conv => whnf))
        | exact ⟨by simp [zA, zB, ew2], rfl⟩

theorem findR_z {b : Bl} {f : Fl} {ring : Int} {m : Nat} (h : orE (ringErr b f ring) (withinS ((m + 1 : Nat) : Int) 1 12) = 0) : findR b f ring ((m + 1 : Nat) : Int) = match b.br f ring.toNat m with
    | none => .tup [.agg [.int .i64 0, .int .i64 0], .int .i64 7]
    | some a => .tup [.agg [.int .i64 a, .int .i64 ((m + 1 : Nat) : Int)], .int .i64 0] := by
  unfold findR
  simp only
  rw [h, show (((m + 1 : Nat) : Int) - 1).toNat = m by omega]
  rfl

set_option maxHeartbeats 8000000 in
theorem brackets_A2 (up : List Ces) (hr : gl g_rotor_roots = rootsI) (hp : gl g_internal_strconv_uint64pow10 = powI) (b : Bl) (f : Fl) (hs : b.short = true) (ring a d x E1 : Int) (m : Nat) (hm : m < 12) (hE1 : E1 = orE (ringErr b f ring) (withinS ((m + 1 : Nat) : Int) 1 12)) (zA : E1 = 0) (ok0 : b.ok f ring.toNat) (hbr : b.br f ring.toNat m = none) (s0 : 0 ≤ ring) (s1 : ring < b.nr) :
    Cs gl n_nacellelaw03_RotorBrackets up [b.iv, f.iv, .agg [.int .i64 ring, .int .i64 a, .int .i64 d, .int .i64 x, .int .i64 ((m + 1 : Nat) : Int)]] (.bool true) up := by
  obtain ⟨D, hD⟩ : ∃ D : Int, D = ((m + 1 : Nat) : Int) := ⟨_, rfl⟩
  have hFi := fun up => c_Find (gl := gl) up b f ring ((m + 1 : Nat) : Int)
  have hFr := fun up => c_rFind (gl := gl) up b f ring.toNat ok0 m hm
  rw [findR_z (hE1 ▸ zA), hbr] at hFi
  rw [hbr] at hFr
  rw [← hD] at hE1 hFi hFr ⊢
  obtain ⟨hl, hd, hn⟩ := short_le hs
  have hS := fun up => c_Short (gl := gl) up b
  rw [hs] at hS
  have hA := fun up => c_awake (gl := gl) up hr hp
  have hb := fun up => c_blade (gl := gl) up b hl hd hn
  obtain ⟨E2, hE2⟩ : ∃ E2, E2 = orE (ringErr b f ring) (indErr a d) := ⟨_, rfl⟩
  have k2 : E2 = 0 → 0 ≤ ring ∧ ring < b.nr ∧ b.ok f ring.toNat ∧ (b.err = 0 ∧ f.err = 0) ∧ ∃ D : Nat, d = D ∧ 1 ≤ D ∧ D ≤ 12 ∧ 0 ≤ a ∧ a ≤ 2 ^ (D - 1) := fun h => by
    rw [hE2, orE_zero] at h
    obtain ⟨g1, g2, g3, g4⟩ := ringErr_ok h.1
    obtain ⟨n, rfl, n2, n3, n4⟩ := indErr_ok h.2
    obtain ⟨_, _, _, ok⟩ := Bl.good g1 g2
    exact ⟨g3, g4, ok _ (by omega), ⟨g1, g2⟩, n + 1, rfl, by omega, by omega, n3, by simpa using n4⟩
  have hR2 := fun up => c_rCheckRing (gl := gl) up b f ring
  have hf1 := fun up => c_rfl2 (gl := gl) up (ringErr b f ring) (withinS D 1 12)
  rw [← hE1] at hf1
  have hf2' := fun up => c_rfl2 (gl := gl) up (ringErr b f ring) (indErr a d)
  rw [← hE2] at hf2'
  by_cases zB : E2 = 0
  rotate_left
  · have hRf := fun up => c_Refine (gl := gl) up b f ring a d
    have e0 : orE (brErr b f ring a d) (bif d == 12 then 23 else 0) = E2 := by
      unfold brErr
      rw [← hE2, orE_pos (a := E2) (by simpa using zB), orE_pos (by simpa using zB)]
    have e1 : refineR b f ring a d = .tup [.agg [.int .i64 0, .int .i64 0], .int .i64 E2] := by
      unfold refineR
      simp only
      rw [e0, show (E2 != 0) = true by simpa using zB]; rfl
    have e2 : brErr b f ring a d = E2 := by
      unfold brErr
      rw [← hE2, orE_pos (a := E2) (by simpa using zB)]
    rw [e1] at hRf
    have hBr := fun up => c_CheckBracket (gl := gl) up b f ring a d
    rw [e2] at hBr
    refine mk h_nacellelaw03_RotorBrackets rfl rfl ?_
    conv => whnf
    repeat first
      | (show DRAW _ _ _ _ _; first | refine .mk 0 (by decide +kernel) ?_ | refine .mk 1 (by decide +kernel) ?_ | refine .mk 2 (by decide +kernel) ?_ | refine .mk 3 (by decide +kernel) ?_ | refine .mk 4 (by decide +kernel) ?_ | refine .mk 5 (by decide +kernel) ?_ | refine .mk 6 (by decide +kernel) ?_ | refine .mk 7 (by decide +kernel) ?_ | refine .mk 8 (by decide +kernel) ?_ | refine .mk 9 (by decide +kernel) ?_ | refine .mk 10 (by decide +kernel) ?_ | refine .mk 11 (by decide +kernel) ?_ | refine .mk 12 (by decide +kernel) ?_ | refine .mk 13 (by decide +kernel) ?_ | refine .mk 14 (by decide +kernel) ?_ | refine .mk 15 (by decide +kernel) ?_ | refine .mk 16 (by decide +kernel) ?_ | refine .mk 17 (by decide +kernel) ?_ | refine .mk 18 (by decide +kernel) ?_ | refine .mk 19 (by decide +kernel) ?_ | refine .mk 20 (by decide +kernel) ?_ | refine .mk 21 (by decide +kernel) ?_ | refine .mk 22 (by decide +kernel) ?_ | refine .mk 23 (by decide +kernel) ?_ | refine .mk 24 (by decide +kernel) ?_ | refine .mk 25 (by decide +kernel) ?_ | refine .mk 26 (by decide +kernel) ?_ | refine .mk 27 (by decide +kernel) ?_ | refine .mk 28 (by decide +kernel) ?_ | refine .mk 29 (by decide +kernel) ?_ | refine .mk 30 (by decide +kernel) ?_ | refine .mk 31 (by decide +kernel) ?_ | refine .mk 32 (by decide +kernel) ?_ | refine .mk 33 (by decide +kernel) ?_ | refine .mk 34 (by decide +kernel) ?_ | refine .mk 35 (by decide +kernel) ?_ | refine .mk 36 (by decide +kernel) ?_ | refine .mk 37 (by decide +kernel) ?_ | refine .mk 38 (by decide +kernel) ?_ | refine .mk 39 (by decide +kernel) ?_ | refine .mk 40 (by decide +kernel) ?_ | refine .mk 41 (by decide +kernel) ?_ | refine .mk 42 (by decide +kernel) ?_ | refine .mk 43 (by decide +kernel) ?_ | refine .mk 44 (by decide +kernel) ?_ | refine .mk 45 (by decide +kernel) ?_ | refine .mk 46 (by decide +kernel) ?_ | refine .mk 47 (by decide +kernel) ?_ | refine .mk 48 (by decide +kernel) ?_ | refine .mk 49 (by decide +kernel) ?_ | refine .mk 50 (by decide +kernel) ?_ | refine .mk 51 (by decide +kernel) ?_ | refine .mk 52 (by decide +kernel) ?_ | refine .mk 53 (by decide +kernel) ?_ | refine .mk 54 (by decide +kernel) ?_ | refine .mk 55 (by decide +kernel) ?_ | refine .mk 56 (by decide +kernel) ?_ | refine .mk 57 (by decide +kernel) ?_ | refine .mk 58 (by decide +kernel) ?_ | refine .mk 59 (by decide +kernel) ?_ | refine .mk 60 (by decide +kernel) ?_ | refine .mk 61 (by decide +kernel) ?_ | refine .mk 62 (by decide +kernel) ?_ | refine .mk 63 (by decide +kernel) ?_ | refine .mk 64 (by decide +kernel) ?_ | refine .mk 65 (by decide +kernel) ?_ | refine .mk 66 (by decide +kernel) ?_ | refine .mk 67 (by decide +kernel) ?_ | refine .mk 68 (by decide +kernel) ?_ | refine .mk 69 (by decide +kernel) ?_ | refine .mk 70 (by decide +kernel) ?_ | refine .mk 71 (by decide +kernel) ?_ | refine .mk 72 (by decide +kernel) ?_ | refine .mk 73 (by decide +kernel) ?_ | refine .mk 74 (by decide +kernel) ?_ | refine .mk 75 (by decide +kernel) ?_ | refine .mk 76 (by decide +kernel) ?_ | refine .mk 77 (by decide +kernel) ?_ | refine .mk 78 (by decide +kernel) ?_ | refine .mk 79 (by decide +kernel) ?_ | refine .mk 80 (by decide +kernel) ?_ | refine .mk 81 (by decide +kernel) ?_ | refine .mk 82 (by decide +kernel) ?_ | refine .mk 83 (by decide +kernel) ?_ | refine .mk 84 (by decide +kernel) ?_ | refine .mk 85 (by decide +kernel) ?_ | refine .mk 86 (by decide +kernel) ?_ | refine .mk 87 (by decide +kernel) ?_ | refine .mk 88 (by decide +kernel) ?_ | refine .mk 89 (by decide +kernel) ?_; conv => whnf)
      | (refine CALL0.cutBy lvBrackets _ _ _ _ _ (leL_refl _) (hA ..) rfl ?_; conv => whnf)
      | (refine CALL0.mk _ _ _ _ _ (leL_refl _) (hA ..) rfl ?_; conv => whnf)
      | (refine CALLQ.mk _ _ _ (leL_refl _) (hA ..) rfl ?_; conv => whnf)
      | (refine CALL0.cutBy lvBrackets _ _ _ _ _ (leL_refl _) (hS ..) rfl ?_; conv => whnf)
      | (refine CALL0.mk _ _ _ _ _ (leL_refl _) (hS ..) rfl ?_; conv => whnf)
      | (refine CALLQ.mk _ _ _ (leL_refl _) (hS ..) rfl ?_; conv => whnf)
      | (refine CALL0.cutBy lvBrackets _ _ _ _ _ (leL_refl _) (hb ..) rfl ?_; conv => whnf)
      | (refine CALL0.mk _ _ _ _ _ (leL_refl _) (hb ..) rfl ?_; conv => whnf)
      | (refine CALLQ.mk _ _ _ (leL_refl _) (hb ..) rfl ?_; conv => whnf)
      | (refine CALL0.cutBy lvBrackets _ _ _ _ _ (leL_refl _) (hFi ..) rfl ?_; conv => whnf)
      | (refine CALL0.mk _ _ _ _ _ (leL_refl _) (hFi ..) rfl ?_; conv => whnf)
      | (refine CALLQ.mk _ _ _ (leL_refl _) (hFi ..) rfl ?_; conv => whnf)
      | (refine CALL0.cutBy lvBrackets _ _ _ _ _ (leL_refl _) (hBr ..) rfl ?_; conv => whnf)
      | (refine CALL0.mk _ _ _ _ _ (leL_refl _) (hBr ..) rfl ?_; conv => whnf)
      | (refine CALLQ.mk _ _ _ (leL_refl _) (hBr ..) rfl ?_; conv => whnf)
      | (refine CALL0.cutBy lvBrackets _ _ _ _ _ (leL_refl _) (hRf ..) rfl ?_; conv => whnf)
      | (refine CALL0.mk _ _ _ _ _ (leL_refl _) (hRf ..) rfl ?_; conv => whnf)
      | (refine CALLQ.mk _ _ _ (leL_refl _) (hRf ..) rfl ?_; conv => whnf)
      | (refine CALL0.cutBy lvBrackets _ _ _ _ _ (leL_refl _) (hR2 ..) rfl ?_; conv => whnf)
      | (refine CALL0.mk _ _ _ _ _ (leL_refl _) (hR2 ..) rfl ?_; conv => whnf)
      | (refine CALLQ.mk _ _ _ (leL_refl _) (hR2 ..) rfl ?_; conv => whnf)
      | (refine CALL0.cutBy lvBrackets _ _ _ _ _ (leL_refl _) (c_rCheckInduction ..) rfl ?_; conv => whnf)
      | (refine CALL0.mk _ _ _ _ _ (leL_refl _) (c_rCheckInduction ..) rfl ?_; conv => whnf)
      | (refine CALLQ.mk _ _ _ (leL_refl _) (c_rCheckInduction ..) rfl ?_; conv => whnf)
      | (refine CALL0.cutBy lvBrackets _ _ _ _ _ (leL_refl _) (c_rCheckDepth ..) rfl ?_; conv => whnf)
      | (refine CALL0.mk _ _ _ _ _ (leL_refl _) (c_rCheckDepth ..) rfl ?_; conv => whnf)
      | (refine CALLQ.mk _ _ _ (leL_refl _) (c_rCheckDepth ..) rfl ?_; conv => whnf)
      | (refine CALL0.cutBy lvBrackets _ _ _ _ _ (leL_refl _) (hf1 ..) rfl ?_; conv => whnf)
      | (refine CALL0.mk _ _ _ _ _ (leL_refl _) (hf1 ..) rfl ?_; conv => whnf)
      | (refine CALLQ.mk _ _ _ (leL_refl _) (hf1 ..) rfl ?_; conv => whnf)
      | (refine CALL0.cutBy lvBrackets _ _ _ _ _ (leL_refl _) (hf2' ..) rfl ?_; conv => whnf)
      | (refine CALL0.mk _ _ _ _ _ (leL_refl _) (hf2' ..) rfl ?_; conv => whnf)
      | (refine CALLQ.mk _ _ _ (leL_refl _) (hf2' ..) rfl ?_; conv => whnf)
    split
    rotate_left
    · rename_i h
      exact absurd h (by simp [zA])
    conv => whnf
    first
      | refine .mk 0 (by decide +kernel) ?_
      | refine .mk 1 (by decide +kernel) ?_
      | refine .mk 2 (by decide +kernel) ?_
      | refine .mk 3 (by decide +kernel) ?_
      | refine .mk 4 (by decide +kernel) ?_
      | refine .mk 5 (by decide +kernel) ?_
      | refine .mk 6 (by decide +kernel) ?_
      | refine .mk 7 (by decide +kernel) ?_
      | refine .mk 8 (by decide +kernel) ?_
      | refine .mk 9 (by decide +kernel) ?_
      | refine .mk 10 (by decide +kernel) ?_
      | refine .mk 11 (by decide +kernel) ?_
      | refine .mk 12 (by decide +kernel) ?_
      | refine .mk 13 (by decide +kernel) ?_
      | refine .mk 14 (by decide +kernel) ?_
      | refine .mk 15 (by decide +kernel) ?_
      | refine .mk 16 (by decide +kernel) ?_
      | refine .mk 17 (by decide +kernel) ?_
      | refine .mk 18 (by decide +kernel) ?_
      | refine .mk 19 (by decide +kernel) ?_
      | refine .mk 20 (by decide +kernel) ?_
      | refine .mk 21 (by decide +kernel) ?_
      | refine .mk 22 (by decide +kernel) ?_
      | refine .mk 23 (by decide +kernel) ?_
      | refine .mk 24 (by decide +kernel) ?_
      | refine .mk 25 (by decide +kernel) ?_
      | refine .mk 26 (by decide +kernel) ?_
      | refine .mk 27 (by decide +kernel) ?_
      | refine .mk 28 (by decide +kernel) ?_
      | refine .mk 29 (by decide +kernel) ?_
      | refine .mk 30 (by decide +kernel) ?_
      | refine .mk 31 (by decide +kernel) ?_
      | refine .mk 32 (by decide +kernel) ?_
      | refine .mk 33 (by decide +kernel) ?_
      | refine .mk 34 (by decide +kernel) ?_
      | refine .mk 35 (by decide +kernel) ?_
      | refine .mk 36 (by decide +kernel) ?_
      | refine .mk 37 (by decide +kernel) ?_
      | refine .mk 38 (by decide +kernel) ?_
      | refine .mk 39 (by decide +kernel) ?_
      | refine .mk 40 (by decide +kernel) ?_
      | refine .mk 41 (by decide +kernel) ?_
      | refine .mk 42 (by decide +kernel) ?_
      | refine .mk 43 (by decide +kernel) ?_
      | refine .mk 44 (by decide +kernel) ?_
      | refine .mk 45 (by decide +kernel) ?_
      | refine .mk 46 (by decide +kernel) ?_
      | refine .mk 47 (by decide +kernel) ?_
      | refine .mk 48 (by decide +kernel) ?_
      | refine .mk 49 (by decide +kernel) ?_
      | refine .mk 50 (by decide +kernel) ?_
      | refine .mk 51 (by decide +kernel) ?_
      | refine .mk 52 (by decide +kernel) ?_
      | refine .mk 53 (by decide +kernel) ?_
      | refine .mk 54 (by decide +kernel) ?_
      | refine .mk 55 (by decide +kernel) ?_
      | refine .mk 56 (by decide +kernel) ?_
      | refine .mk 57 (by decide +kernel) ?_
      | refine .mk 58 (by decide +kernel) ?_
      | refine .mk 59 (by decide +kernel) ?_
      | refine .mk 60 (by decide +kernel) ?_
      | refine .mk 61 (by decide +kernel) ?_
      | refine .mk 62 (by decide +kernel) ?_
      | refine .mk 63 (by decide +kernel) ?_
      | refine .mk 64 (by decide +kernel) ?_
      | refine .mk 65 (by decide +kernel) ?_
      | refine .mk 66 (by decide +kernel) ?_
      | refine .mk 67 (by decide +kernel) ?_
      | refine .mk 68 (by decide +kernel) ?_
      | refine .mk 69 (by decide +kernel) ?_
      | refine .mk 70 (by decide +kernel) ?_
      | refine .mk 71 (by decide +kernel) ?_
      | refine .mk 72 (by decide +kernel) ?_
      | refine .mk 73 (by decide +kernel) ?_
      | refine .mk 74 (by decide +kernel) ?_
      | refine .mk 75 (by decide +kernel) ?_
      | refine .mk 76 (by decide +kernel) ?_
      | refine .mk 77 (by decide +kernel) ?_
      | refine .mk 78 (by decide +kernel) ?_
      | refine .mk 79 (by decide +kernel) ?_
      | refine .mk 80 (by decide +kernel) ?_
      | refine .mk 81 (by decide +kernel) ?_
      | refine .mk 82 (by decide +kernel) ?_
      | refine .mk 83 (by decide +kernel) ?_
      | refine .mk 84 (by decide +kernel) ?_
      | refine .mk 85 (by decide +kernel) ?_
      | refine .mk 86 (by decide +kernel) ?_
      | refine .mk 87 (by decide +kernel) ?_
      | refine .mk 88 (by decide +kernel) ?_
      | refine .mk 89 (by decide +kernel) ?_
    conv => whnf
    split
    rotate_left
    · rename_i h
      have h' : decide (0 ≤ ring) = false := h
      simp at h' <;> omega
    conv => whnf
    split
    rotate_left
    · rename_i h
      have h' : decide (ring < b.nr) = false := h
      simp at h' <;> omega
    conv => whnf
    first | refine CALLQ.mk _ _ _ (leL_refl _) (hFr _) rfl ?_ | refine CALL0.cutBy lvBrackets _ _ _ _ _ (leL_refl _) (hFr _) rfl ?_ | refine CALL0.mk _ _ _ _ _ (leL_refl _) (hFr _) rfl ?_
    conv => whnf
    first
      | refine .mk 0 (by decide +kernel) ?_
      | refine .mk 1 (by decide +kernel) ?_
      | refine .mk 2 (by decide +kernel) ?_
      | refine .mk 3 (by decide +kernel) ?_
      | refine .mk 4 (by decide +kernel) ?_
      | refine .mk 5 (by decide +kernel) ?_
      | refine .mk 6 (by decide +kernel) ?_
      | refine .mk 7 (by decide +kernel) ?_
      | refine .mk 8 (by decide +kernel) ?_
      | refine .mk 9 (by decide +kernel) ?_
      | refine .mk 10 (by decide +kernel) ?_
      | refine .mk 11 (by decide +kernel) ?_
      | refine .mk 12 (by decide +kernel) ?_
      | refine .mk 13 (by decide +kernel) ?_
      | refine .mk 14 (by decide +kernel) ?_
      | refine .mk 15 (by decide +kernel) ?_
      | refine .mk 16 (by decide +kernel) ?_
      | refine .mk 17 (by decide +kernel) ?_
      | refine .mk 18 (by decide +kernel) ?_
      | refine .mk 19 (by decide +kernel) ?_
      | refine .mk 20 (by decide +kernel) ?_
      | refine .mk 21 (by decide +kernel) ?_
      | refine .mk 22 (by decide +kernel) ?_
      | refine .mk 23 (by decide +kernel) ?_
      | refine .mk 24 (by decide +kernel) ?_
      | refine .mk 25 (by decide +kernel) ?_
      | refine .mk 26 (by decide +kernel) ?_
      | refine .mk 27 (by decide +kernel) ?_
      | refine .mk 28 (by decide +kernel) ?_
      | refine .mk 29 (by decide +kernel) ?_
      | refine .mk 30 (by decide +kernel) ?_
      | refine .mk 31 (by decide +kernel) ?_
      | refine .mk 32 (by decide +kernel) ?_
      | refine .mk 33 (by decide +kernel) ?_
      | refine .mk 34 (by decide +kernel) ?_
      | refine .mk 35 (by decide +kernel) ?_
      | refine .mk 36 (by decide +kernel) ?_
      | refine .mk 37 (by decide +kernel) ?_
      | refine .mk 38 (by decide +kernel) ?_
      | refine .mk 39 (by decide +kernel) ?_
      | refine .mk 40 (by decide +kernel) ?_
      | refine .mk 41 (by decide +kernel) ?_
      | refine .mk 42 (by decide +kernel) ?_
      | refine .mk 43 (by decide +kernel) ?_
      | refine .mk 44 (by decide +kernel) ?_
      | refine .mk 45 (by decide +kernel) ?_
      | refine .mk 46 (by decide +kernel) ?_
      | refine .mk 47 (by decide +kernel) ?_
      | refine .mk 48 (by decide +kernel) ?_
      | refine .mk 49 (by decide +kernel) ?_
      | refine .mk 50 (by decide +kernel) ?_
      | refine .mk 51 (by decide +kernel) ?_
      | refine .mk 52 (by decide +kernel) ?_
      | refine .mk 53 (by decide +kernel) ?_
      | refine .mk 54 (by decide +kernel) ?_
      | refine .mk 55 (by decide +kernel) ?_
      | refine .mk 56 (by decide +kernel) ?_
      | refine .mk 57 (by decide +kernel) ?_
      | refine .mk 58 (by decide +kernel) ?_
      | refine .mk 59 (by decide +kernel) ?_
      | refine .mk 60 (by decide +kernel) ?_
      | refine .mk 61 (by decide +kernel) ?_
      | refine .mk 62 (by decide +kernel) ?_
      | refine .mk 63 (by decide +kernel) ?_
      | refine .mk 64 (by decide +kernel) ?_
      | refine .mk 65 (by decide +kernel) ?_
      | refine .mk 66 (by decide +kernel) ?_
      | refine .mk 67 (by decide +kernel) ?_
      | refine .mk 68 (by decide +kernel) ?_
      | refine .mk 69 (by decide +kernel) ?_
      | refine .mk 70 (by decide +kernel) ?_
      | refine .mk 71 (by decide +kernel) ?_
      | refine .mk 72 (by decide +kernel) ?_
      | refine .mk 73 (by decide +kernel) ?_
      | refine .mk 74 (by decide +kernel) ?_
      | refine .mk 75 (by decide +kernel) ?_
      | refine .mk 76 (by decide +kernel) ?_
      | refine .mk 77 (by decide +kernel) ?_
      | refine .mk 78 (by decide +kernel) ?_
      | refine .mk 79 (by decide +kernel) ?_
      | refine .mk 80 (by decide +kernel) ?_
      | refine .mk 81 (by decide +kernel) ?_
      | refine .mk 82 (by decide +kernel) ?_
      | refine .mk 83 (by decide +kernel) ?_
      | refine .mk 84 (by decide +kernel) ?_
      | refine .mk 85 (by decide +kernel) ?_
      | refine .mk 86 (by decide +kernel) ?_
      | refine .mk 87 (by decide +kernel) ?_
      | refine .mk 88 (by decide +kernel) ?_
      | refine .mk 89 (by decide +kernel) ?_
    conv => whnf
    split
    · rename_i h
      exact absurd h (by simp [zB])
    rename_i hN
    clear hN
    conv => whnf
    split
    · rename_i h
      exact absurd h (by simp [zB])
    rename_i hN
    clear hN
    conv => whnf
    split
    · rename_i h
      exact absurd h (by simp [zB])
    rename_i hN
    clear hN
    conv => whnf
    split
    rotate_left
    (rename_i hz; exact absurd hz (by simp))
    conv => whnf
    repeat first
      | exact ⟨rfl, rfl⟩
      | (split; rotate_left; (rename_i hz; exact absurd hz (by simp [zA])); (conv => whnf))
      | exact ⟨by simp [zA], rfl⟩
  obtain ⟨r0, r1, ok, gB, D', rfl, d1, d2, a0, a1⟩ := k2 zB
  have hIB := fun up => c_rIsBracket (gl := gl) up b f ring.toNat ok a D' d1 d2 a0 a1
  have e20 : brErr b f ring a D' = bif isBr b f ring.toNat a D' then 0 else 22 := by
    unfold brErr
    rw [← hE2, zB, show ((D' : Nat) : Int).toNat = D' by omega]
    cases isBr b f ring.toNat a D' <;> rfl
  cases hib : isBr b f ring.toNat a D' with
  | false =>
    rw [hib] at hIB e20
    have e20 : brErr b f ring a D' = 22 := e20
    have hBr := fun up => c_CheckBracket (gl := gl) up b f ring a D'
    rw [e20] at hBr
    have hRf := fun up => c_Refine (gl := gl) up b f ring a D'
    have e1 : refineR b f ring a D' = .tup [.agg [.int .i64 0, .int .i64 0], .int .i64 22] := by
      unfold refineR
      simp only
      rw [e20]; rfl
    rw [e1] at hRf
    refine mk h_nacellelaw03_RotorBrackets rfl rfl ?_
    conv => whnf
    repeat first
      | (show DRAW _ _ _ _ _; first | refine .mk 0 (by decide +kernel) ?_ | refine .mk 1 (by decide +kernel) ?_ | refine .mk 2 (by decide +kernel) ?_ | refine .mk 3 (by decide +kernel) ?_ | refine .mk 4 (by decide +kernel) ?_ | refine .mk 5 (by decide +kernel) ?_ | refine .mk 6 (by decide +kernel) ?_ | refine .mk 7 (by decide +kernel) ?_ | refine .mk 8 (by decide +kernel) ?_ | refine .mk 9 (by decide +kernel) ?_ | refine .mk 10 (by decide +kernel) ?_ | refine .mk 11 (by decide +kernel) ?_ | refine .mk 12 (by decide +kernel) ?_ | refine .mk 13 (by decide +kernel) ?_ | refine .mk 14 (by decide +kernel) ?_ | refine .mk 15 (by decide +kernel) ?_ | refine .mk 16 (by decide +kernel) ?_ | refine .mk 17 (by decide +kernel) ?_ | refine .mk 18 (by decide +kernel) ?_ | refine .mk 19 (by decide +kernel) ?_ | refine .mk 20 (by decide +kernel) ?_ | refine .mk 21 (by decide +kernel) ?_ | refine .mk 22 (by decide +kernel) ?_ | refine .mk 23 (by decide +kernel) ?_ | refine .mk 24 (by decide +kernel) ?_ | refine .mk 25 (by decide +kernel) ?_ | refine .mk 26 (by decide +kernel) ?_ | refine .mk 27 (by decide +kernel) ?_ | refine .mk 28 (by decide +kernel) ?_ | refine .mk 29 (by decide +kernel) ?_ | refine .mk 30 (by decide +kernel) ?_ | refine .mk 31 (by decide +kernel) ?_ | refine .mk 32 (by decide +kernel) ?_ | refine .mk 33 (by decide +kernel) ?_ | refine .mk 34 (by decide +kernel) ?_ | refine .mk 35 (by decide +kernel) ?_ | refine .mk 36 (by decide +kernel) ?_ | refine .mk 37 (by decide +kernel) ?_ | refine .mk 38 (by decide +kernel) ?_ | refine .mk 39 (by decide +kernel) ?_ | refine .mk 40 (by decide +kernel) ?_ | refine .mk 41 (by decide +kernel) ?_ | refine .mk 42 (by decide +kernel) ?_ | refine .mk 43 (by decide +kernel) ?_ | refine .mk 44 (by decide +kernel) ?_ | refine .mk 45 (by decide +kernel) ?_ | refine .mk 46 (by decide +kernel) ?_ | refine .mk 47 (by decide +kernel) ?_ | refine .mk 48 (by decide +kernel) ?_ | refine .mk 49 (by decide +kernel) ?_ | refine .mk 50 (by decide +kernel) ?_ | refine .mk 51 (by decide +kernel) ?_ | refine .mk 52 (by decide +kernel) ?_ | refine .mk 53 (by decide +kernel) ?_ | refine .mk 54 (by decide +kernel) ?_ | refine .mk 55 (by decide +kernel) ?_ | refine .mk 56 (by decide +kernel) ?_ | refine .mk 57 (by decide +kernel) ?_ | refine .mk 58 (by decide +kernel) ?_ | refine .mk 59 (by decide +kernel) ?_ | refine .mk 60 (by decide +kernel) ?_ | refine .mk 61 (by decide +kernel) ?_ | refine .mk 62 (by decide +kernel) ?_ | refine .mk 63 (by decide +kernel) ?_ | refine .mk 64 (by decide +kernel) ?_ | refine .mk 65 (by decide +kernel) ?_ | refine .mk 66 (by decide +kernel) ?_ | refine .mk 67 (by decide +kernel) ?_ | refine .mk 68 (by decide +kernel) ?_ | refine .mk 69 (by decide +kernel) ?_ | refine .mk 70 (by decide +kernel) ?_ | refine .mk 71 (by decide +kernel) ?_ | refine .mk 72 (by decide +kernel) ?_ | refine .mk 73 (by decide +kernel) ?_ | refine .mk 74 (by decide +kernel) ?_ | refine .mk 75 (by decide +kernel) ?_ | refine .mk 76 (by decide +kernel) ?_ | refine .mk 77 (by decide +kernel) ?_ | refine .mk 78 (by decide +kernel) ?_ | refine .mk 79 (by decide +kernel) ?_ | refine .mk 80 (by decide +kernel) ?_ | refine .mk 81 (by decide +kernel) ?_ | refine .mk 82 (by decide +kernel) ?_ | refine .mk 83 (by decide +kernel) ?_ | refine .mk 84 (by decide +kernel) ?_ | refine .mk 85 (by decide +kernel) ?_ | refine .mk 86 (by decide +kernel) ?_ | refine .mk 87 (by decide +kernel) ?_ | refine .mk 88 (by decide +kernel) ?_ | refine .mk 89 (by decide +kernel) ?_; conv => whnf)
      | (refine CALL0.cutBy lvBrackets _ _ _ _ _ (leL_refl _) (hA ..) rfl ?_; conv => whnf)
      | (refine CALL0.mk _ _ _ _ _ (leL_refl _) (hA ..) rfl ?_; conv => whnf)
      | (refine CALLQ.mk _ _ _ (leL_refl _) (hA ..) rfl ?_; conv => whnf)
      | (refine CALL0.cutBy lvBrackets _ _ _ _ _ (leL_refl _) (hS ..) rfl ?_; conv => whnf)
      | (refine CALL0.mk _ _ _ _ _ (leL_refl _) (hS ..) rfl ?_; conv => whnf)
      | (refine CALLQ.mk _ _ _ (leL_refl _) (hS ..) rfl ?_; conv => whnf)
      | (refine CALL0.cutBy lvBrackets _ _ _ _ _ (leL_refl _) (hb ..) rfl ?_; conv => whnf)
      | (refine CALL0.mk _ _ _ _ _ (leL_refl _) (hb ..) rfl ?_; conv => whnf)
      | (refine CALLQ.mk _ _ _ (leL_refl _) (hb ..) rfl ?_; conv => whnf)
      | (refine CALL0.cutBy lvBrackets _ _ _ _ _ (leL_refl _) (hFi ..) rfl ?_; conv => whnf)
      | (refine CALL0.mk _ _ _ _ _ (leL_refl _) (hFi ..) rfl ?_; conv => whnf)
      | (refine CALLQ.mk _ _ _ (leL_refl _) (hFi ..) rfl ?_; conv => whnf)
      | (refine CALL0.cutBy lvBrackets _ _ _ _ _ (leL_refl _) (hBr ..) rfl ?_; conv => whnf)
      | (refine CALL0.mk _ _ _ _ _ (leL_refl _) (hBr ..) rfl ?_; conv => whnf)
      | (refine CALLQ.mk _ _ _ (leL_refl _) (hBr ..) rfl ?_; conv => whnf)
      | (refine CALL0.cutBy lvBrackets _ _ _ _ _ (leL_refl _) (hRf ..) rfl ?_; conv => whnf)
      | (refine CALL0.mk _ _ _ _ _ (leL_refl _) (hRf ..) rfl ?_; conv => whnf)
      | (refine CALLQ.mk _ _ _ (leL_refl _) (hRf ..) rfl ?_; conv => whnf)
      | (refine CALL0.cutBy lvBrackets _ _ _ _ _ (leL_refl _) (hR2 ..) rfl ?_; conv => whnf)
      | (refine CALL0.mk _ _ _ _ _ (leL_refl _) (hR2 ..) rfl ?_; conv => whnf)
      | (refine CALLQ.mk _ _ _ (leL_refl _) (hR2 ..) rfl ?_; conv => whnf)
      | (refine CALL0.cutBy lvBrackets _ _ _ _ _ (leL_refl _) (c_rCheckInduction ..) rfl ?_; conv => whnf)
      | (refine CALL0.mk _ _ _ _ _ (leL_refl _) (c_rCheckInduction ..) rfl ?_; conv => whnf)
      | (refine CALLQ.mk _ _ _ (leL_refl _) (c_rCheckInduction ..) rfl ?_; conv => whnf)
      | (refine CALL0.cutBy lvBrackets _ _ _ _ _ (leL_refl _) (c_rCheckDepth ..) rfl ?_; conv => whnf)
      | (refine CALL0.mk _ _ _ _ _ (leL_refl _) (c_rCheckDepth ..) rfl ?_; conv => whnf)
      | (refine CALLQ.mk _ _ _ (leL_refl _) (c_rCheckDepth ..) rfl ?_; conv => whnf)
      | (refine CALL0.cutBy lvBrackets _ _ _ _ _ (leL_refl _) (hf1 ..) rfl ?_; conv => whnf)
      | (refine CALL0.mk _ _ _ _ _ (leL_refl _) (hf1 ..) rfl ?_; conv => whnf)
      | (refine CALLQ.mk _ _ _ (leL_refl _) (hf1 ..) rfl ?_; conv => whnf)
      | (refine CALL0.cutBy lvBrackets _ _ _ _ _ (leL_refl _) (hf2' ..) rfl ?_; conv => whnf)
      | (refine CALL0.mk _ _ _ _ _ (leL_refl _) (hf2' ..) rfl ?_; conv => whnf)
      | (refine CALLQ.mk _ _ _ (leL_refl _) (hf2' ..) rfl ?_; conv => whnf)
    split
    rotate_left
    · rename_i h
      exact absurd h (by simp [zA])
    conv => whnf
    first
      | refine .mk 0 (by decide +kernel) ?_
      | refine .mk 1 (by decide +kernel) ?_
      | refine .mk 2 (by decide +kernel) ?_
      | refine .mk 3 (by decide +kernel) ?_
      | refine .mk 4 (by decide +kernel) ?_
      | refine .mk 5 (by decide +kernel) ?_
      | refine .mk 6 (by decide +kernel) ?_
      | refine .mk 7 (by decide +kernel) ?_
      | refine .mk 8 (by decide +kernel) ?_
      | refine .mk 9 (by decide +kernel) ?_
      | refine .mk 10 (by decide +kernel) ?_
      | refine .mk 11 (by decide +kernel) ?_
      | refine .mk 12 (by decide +kernel) ?_
      | refine .mk 13 (by decide +kernel) ?_
      | refine .mk 14 (by decide +kernel) ?_
      | refine .mk 15 (by decide +kernel) ?_
      | refine .mk 16 (by decide +kernel) ?_
      | refine .mk 17 (by decide +kernel) ?_
      | refine .mk 18 (by decide +kernel) ?_
      | refine .mk 19 (by decide +kernel) ?_
      | refine .mk 20 (by decide +kernel) ?_
      | refine .mk 21 (by decide +kernel) ?_
      | refine .mk 22 (by decide +kernel) ?_
      | refine .mk 23 (by decide +kernel) ?_
      | refine .mk 24 (by decide +kernel) ?_
      | refine .mk 25 (by decide +kernel) ?_
      | refine .mk 26 (by decide +kernel) ?_
      | refine .mk 27 (by decide +kernel) ?_
      | refine .mk 28 (by decide +kernel) ?_
      | refine .mk 29 (by decide +kernel) ?_
      | refine .mk 30 (by decide +kernel) ?_
      | refine .mk 31 (by decide +kernel) ?_
      | refine .mk 32 (by decide +kernel) ?_
      | refine .mk 33 (by decide +kernel) ?_
      | refine .mk 34 (by decide +kernel) ?_
      | refine .mk 35 (by decide +kernel) ?_
      | refine .mk 36 (by decide +kernel) ?_
      | refine .mk 37 (by decide +kernel) ?_
      | refine .mk 38 (by decide +kernel) ?_
      | refine .mk 39 (by decide +kernel) ?_
      | refine .mk 40 (by decide +kernel) ?_
      | refine .mk 41 (by decide +kernel) ?_
      | refine .mk 42 (by decide +kernel) ?_
      | refine .mk 43 (by decide +kernel) ?_
      | refine .mk 44 (by decide +kernel) ?_
      | refine .mk 45 (by decide +kernel) ?_
      | refine .mk 46 (by decide +kernel) ?_
      | refine .mk 47 (by decide +kernel) ?_
      | refine .mk 48 (by decide +kernel) ?_
      | refine .mk 49 (by decide +kernel) ?_
      | refine .mk 50 (by decide +kernel) ?_
      | refine .mk 51 (by decide +kernel) ?_
      | refine .mk 52 (by decide +kernel) ?_
      | refine .mk 53 (by decide +kernel) ?_
      | refine .mk 54 (by decide +kernel) ?_
      | refine .mk 55 (by decide +kernel) ?_
      | refine .mk 56 (by decide +kernel) ?_
      | refine .mk 57 (by decide +kernel) ?_
      | refine .mk 58 (by decide +kernel) ?_
      | refine .mk 59 (by decide +kernel) ?_
      | refine .mk 60 (by decide +kernel) ?_
      | refine .mk 61 (by decide +kernel) ?_
      | refine .mk 62 (by decide +kernel) ?_
      | refine .mk 63 (by decide +kernel) ?_
      | refine .mk 64 (by decide +kernel) ?_
      | refine .mk 65 (by decide +kernel) ?_
      | refine .mk 66 (by decide +kernel) ?_
      | refine .mk 67 (by decide +kernel) ?_
      | refine .mk 68 (by decide +kernel) ?_
      | refine .mk 69 (by decide +kernel) ?_
      | refine .mk 70 (by decide +kernel) ?_
      | refine .mk 71 (by decide +kernel) ?_
      | refine .mk 72 (by decide +kernel) ?_
      | refine .mk 73 (by decide +kernel) ?_
      | refine .mk 74 (by decide +kernel) ?_
      | refine .mk 75 (by decide +kernel) ?_
      | refine .mk 76 (by decide +kernel) ?_
      | refine .mk 77 (by decide +kernel) ?_
      | refine .mk 78 (by decide +kernel) ?_
      | refine .mk 79 (by decide +kernel) ?_
      | refine .mk 80 (by decide +kernel) ?_
      | refine .mk 81 (by decide +kernel) ?_
      | refine .mk 82 (by decide +kernel) ?_
      | refine .mk 83 (by decide +kernel) ?_
      | refine .mk 84 (by decide +kernel) ?_
      | refine .mk 85 (by decide +kernel) ?_
      | refine .mk 86 (by decide +kernel) ?_
      | refine .mk 87 (by decide +kernel) ?_
      | refine .mk 88 (by decide +kernel) ?_
      | refine .mk 89 (by decide +kernel) ?_
    conv => whnf
    split
    rotate_left
    · rename_i h
      have h' : decide (0 ≤ ring) = false := h
      simp at h' <;> omega
    conv => whnf
    split
    rotate_left
    · rename_i h
      have h' : decide (ring < b.nr) = false := h
      simp at h' <;> omega
    conv => whnf
    first | refine CALLQ.mk _ _ _ (leL_refl _) (hFr _) rfl ?_ | refine CALL0.cutBy lvBrackets _ _ _ _ _ (leL_refl _) (hFr _) rfl ?_ | refine CALL0.mk _ _ _ _ _ (leL_refl _) (hFr _) rfl ?_
    conv => whnf
    first
      | refine .mk 0 (by decide +kernel) ?_
      | refine .mk 1 (by decide +kernel) ?_
      | refine .mk 2 (by decide +kernel) ?_
      | refine .mk 3 (by decide +kernel) ?_
      | refine .mk 4 (by decide +kernel) ?_
      | refine .mk 5 (by decide +kernel) ?_
      | refine .mk 6 (by decide +kernel) ?_
      | refine .mk 7 (by decide +kernel) ?_
      | refine .mk 8 (by decide +kernel) ?_
      | refine .mk 9 (by decide +kernel) ?_
      | refine .mk 10 (by decide +kernel) ?_
      | refine .mk 11 (by decide +kernel) ?_
      | refine .mk 12 (by decide +kernel) ?_
      | refine .mk 13 (by decide +kernel) ?_
      | refine .mk 14 (by decide +kernel) ?_
      | refine .mk 15 (by decide +kernel) ?_
      | refine .mk 16 (by decide +kernel) ?_
      | refine .mk 17 (by decide +kernel) ?_
      | refine .mk 18 (by decide +kernel) ?_
      | refine .mk 19 (by decide +kernel) ?_
      | refine .mk 20 (by decide +kernel) ?_
      | refine .mk 21 (by decide +kernel) ?_
      | refine .mk 22 (by decide +kernel) ?_
      | refine .mk 23 (by decide +kernel) ?_
      | refine .mk 24 (by decide +kernel) ?_
      | refine .mk 25 (by decide +kernel) ?_
      | refine .mk 26 (by decide +kernel) ?_
      | refine .mk 27 (by decide +kernel) ?_
      | refine .mk 28 (by decide +kernel) ?_
      | refine .mk 29 (by decide +kernel) ?_
      | refine .mk 30 (by decide +kernel) ?_
      | refine .mk 31 (by decide +kernel) ?_
      | refine .mk 32 (by decide +kernel) ?_
      | refine .mk 33 (by decide +kernel) ?_
      | refine .mk 34 (by decide +kernel) ?_
      | refine .mk 35 (by decide +kernel) ?_
      | refine .mk 36 (by decide +kernel) ?_
      | refine .mk 37 (by decide +kernel) ?_
      | refine .mk 38 (by decide +kernel) ?_
      | refine .mk 39 (by decide +kernel) ?_
      | refine .mk 40 (by decide +kernel) ?_
      | refine .mk 41 (by decide +kernel) ?_
      | refine .mk 42 (by decide +kernel) ?_
      | refine .mk 43 (by decide +kernel) ?_
      | refine .mk 44 (by decide +kernel) ?_
      | refine .mk 45 (by decide +kernel) ?_
      | refine .mk 46 (by decide +kernel) ?_
      | refine .mk 47 (by decide +kernel) ?_
      | refine .mk 48 (by decide +kernel) ?_
      | refine .mk 49 (by decide +kernel) ?_
      | refine .mk 50 (by decide +kernel) ?_
      | refine .mk 51 (by decide +kernel) ?_
      | refine .mk 52 (by decide +kernel) ?_
      | refine .mk 53 (by decide +kernel) ?_
      | refine .mk 54 (by decide +kernel) ?_
      | refine .mk 55 (by decide +kernel) ?_
      | refine .mk 56 (by decide +kernel) ?_
      | refine .mk 57 (by decide +kernel) ?_
      | refine .mk 58 (by decide +kernel) ?_
      | refine .mk 59 (by decide +kernel) ?_
      | refine .mk 60 (by decide +kernel) ?_
      | refine .mk 61 (by decide +kernel) ?_
      | refine .mk 62 (by decide +kernel) ?_
      | refine .mk 63 (by decide +kernel) ?_
      | refine .mk 64 (by decide +kernel) ?_
      | refine .mk 65 (by decide +kernel) ?_
      | refine .mk 66 (by decide +kernel) ?_
      | refine .mk 67 (by decide +kernel) ?_
      | refine .mk 68 (by decide +kernel) ?_
      | refine .mk 69 (by decide +kernel) ?_
      | refine .mk 70 (by decide +kernel) ?_
      | refine .mk 71 (by decide +kernel) ?_
      | refine .mk 72 (by decide +kernel) ?_
      | refine .mk 73 (by decide +kernel) ?_
      | refine .mk 74 (by decide +kernel) ?_
      | refine .mk 75 (by decide +kernel) ?_
      | refine .mk 76 (by decide +kernel) ?_
      | refine .mk 77 (by decide +kernel) ?_
      | refine .mk 78 (by decide +kernel) ?_
      | refine .mk 79 (by decide +kernel) ?_
      | refine .mk 80 (by decide +kernel) ?_
      | refine .mk 81 (by decide +kernel) ?_
      | refine .mk 82 (by decide +kernel) ?_
      | refine .mk 83 (by decide +kernel) ?_
      | refine .mk 84 (by decide +kernel) ?_
      | refine .mk 85 (by decide +kernel) ?_
      | refine .mk 86 (by decide +kernel) ?_
      | refine .mk 87 (by decide +kernel) ?_
      | refine .mk 88 (by decide +kernel) ?_
      | refine .mk 89 (by decide +kernel) ?_
    conv => whnf
    split
    rotate_left
    · rename_i h
      exact absurd h (by simp [zB])
    conv => whnf
    split
    rotate_left
    · rename_i h
      have h' : decide (0 ≤ ring) = false := h
      simp at h' <;> omega
    conv => whnf
    split
    rotate_left
    · rename_i h
      have h' : decide (ring < b.nr) = false := h
      simp at h' <;> omega
    conv => whnf
    first | refine CALLQ.mk _ _ _ (leL_refl _) (hIB _) rfl ?_ | refine CALL0.cutBy lvBrackets _ _ _ _ _ (leL_refl _) (hIB _) rfl ?_ | refine CALL0.mk _ _ _ _ _ (leL_refl _) (hIB _) rfl ?_
    conv => whnf
    repeat first
      | exact ⟨rfl, rfl⟩
      | (split; rotate_left; (rename_i hz; exact absurd hz (by simp [zA])); (conv => whnf))
      | exact ⟨by simp [zA], rfl⟩
  | true =>
    rw [hib] at hIB e20
    have e20 : brErr b f ring a D' = 0 := e20
    have hBr := fun up => c_CheckBracket (gl := gl) up b f ring a D'
    rw [e20] at hBr
    have hRf := fun up => c_Refine (gl := gl) up b f ring a D'
    by_cases h12 : D' = 12
    · subst h12
      have e1 : refineR b f ring a (12 : Nat) = .tup [.agg [.int .i64 0, .int .i64 0], .int .i64 23] := by
        unfold refineR
        simp only
        rw [e20]; rfl
      rw [e1] at hRf
      refine mk h_nacellelaw03_RotorBrackets rfl rfl ?_
      conv => whnf
      repeat first
        | (show DRAW _ _ _ _ _; first | refine .mk 0 (by decide +kernel) ?_ | refine .mk 1 (by decide +kernel) ?_ | refine .mk 2 (by decide +kernel) ?_ | refine .mk 3 (by decide +kernel) ?_ | refine .mk 4 (by decide +kernel) ?_ | refine .mk 5 (by decide +kernel) ?_ | refine .mk 6 (by decide +kernel) ?_ | refine .mk 7 (by decide +kernel) ?_ | refine .mk 8 (by decide +kernel) ?_ | refine .mk 9 (by decide +kernel) ?_ | refine .mk 10 (by decide +kernel) ?_ | refine .mk 11 (by decide +kernel) ?_ | refine .mk 12 (by decide +kernel) ?_ | refine .mk 13 (by decide +kernel) ?_ | refine .mk 14 (by decide +kernel) ?_ | refine .mk 15 (by decide +kernel) ?_ | refine .mk 16 (by decide +kernel) ?_ | refine .mk 17 (by decide +kernel) ?_ | refine .mk 18 (by decide +kernel) ?_ | refine .mk 19 (by decide +kernel) ?_ | refine .mk 20 (by decide +kernel) ?_ | refine .mk 21 (by decide +kernel) ?_ | refine .mk 22 (by decide +kernel) ?_ | refine .mk 23 (by decide +kernel) ?_ | refine .mk 24 (by decide +kernel) ?_ | refine .mk 25 (by decide +kernel) ?_ | refine .mk 26 (by decide +kernel) ?_ | refine .mk 27 (by decide +kernel) ?_ | refine .mk 28 (by decide +kernel) ?_ | refine .mk 29 (by decide +kernel) ?_ | refine .mk 30 (by decide +kernel) ?_ | refine .mk 31 (by decide +kernel) ?_ | refine .mk 32 (by decide +kernel) ?_ | refine .mk 33 (by decide +kernel) ?_ | refine .mk 34 (by decide +kernel) ?_ | refine .mk 35 (by decide +kernel) ?_ | refine .mk 36 (by decide +kernel) ?_ | refine .mk 37 (by decide +kernel) ?_ | refine .mk 38 (by decide +kernel) ?_ | refine .mk 39 (by decide +kernel) ?_ | refine .mk 40 (by decide +kernel) ?_ | refine .mk 41 (by decide +kernel) ?_ | refine .mk 42 (by decide +kernel) ?_ | refine .mk 43 (by decide +kernel) ?_ | refine .mk 44 (by decide +kernel) ?_ | refine .mk 45 (by decide +kernel) ?_ | refine .mk 46 (by decide +kernel) ?_ | refine .mk 47 (by decide +kernel) ?_ | refine .mk 48 (by decide +kernel) ?_ | refine .mk 49 (by decide +kernel) ?_ | refine .mk 50 (by decide +kernel) ?_ | refine .mk 51 (by decide +kernel) ?_ | refine .mk 52 (by decide +kernel) ?_ | refine .mk 53 (by decide +kernel) ?_ | refine .mk 54 (by decide +kernel) ?_ | refine .mk 55 (by decide +kernel) ?_ | refine .mk 56 (by decide +kernel) ?_ | refine .mk 57 (by decide +kernel) ?_ | refine .mk 58 (by decide +kernel) ?_ | refine .mk 59 (by decide +kernel) ?_ | refine .mk 60 (by decide +kernel) ?_ | refine .mk 61 (by decide +kernel) ?_ | refine .mk 62 (by decide +kernel) ?_ | refine .mk 63 (by decide +kernel) ?_ | refine .mk 64 (by decide +kernel) ?_ | refine .mk 65 (by decide +kernel) ?_ | refine .mk 66 (by decide +kernel) ?_ | refine .mk 67 (by decide +kernel) ?_ | refine .mk 68 (by decide +kernel) ?_ | refine .mk 69 (by decide +kernel) ?_ | refine .mk 70 (by decide +kernel) ?_ | refine .mk 71 (by decide +kernel) ?_ | refine .mk 72 (by decide +kernel) ?_ | refine .mk 73 (by decide +kernel) ?_ | refine .mk 74 (by decide +kernel) ?_ | refine .mk 75 (by decide +kernel) ?_ | refine .mk 76 (by decide +kernel) ?_ | refine .mk 77 (by decide +kernel) ?_ | refine .mk 78 (by decide +kernel) ?_ | refine .mk 79 (by decide +kernel) ?_ | refine .mk 80 (by decide +kernel) ?_ | refine .mk 81 (by decide +kernel) ?_ | refine .mk 82 (by decide +kernel) ?_ | refine .mk 83 (by decide +kernel) ?_ | refine .mk 84 (by decide +kernel) ?_ | refine .mk 85 (by decide +kernel) ?_ | refine .mk 86 (by decide +kernel) ?_ | refine .mk 87 (by decide +kernel) ?_ | refine .mk 88 (by decide +kernel) ?_ | refine .mk 89 (by decide +kernel) ?_; conv => whnf)
        | (refine CALL0.cutBy lvBrackets _ _ _ _ _ (leL_refl _) (hA ..) rfl ?_; conv => whnf)
        | (refine CALL0.mk _ _ _ _ _ (leL_refl _) (hA ..) rfl ?_; conv => whnf)
        | (refine CALLQ.mk _ _ _ (leL_refl _) (hA ..) rfl ?_; conv => whnf)
        | (refine CALL0.cutBy lvBrackets _ _ _ _ _ (leL_refl _) (hS ..) rfl ?_; conv => whnf)
        | (refine CALL0.mk _ _ _ _ _ (leL_refl _) (hS ..) rfl ?_; conv => whnf)
        | (refine CALLQ.mk _ _ _ (leL_refl _) (hS ..) rfl ?_; conv => whnf)
        | (refine CALL0.cutBy lvBrackets _ _ _ _ _ (leL_refl _) (hb ..) rfl ?_; conv => whnf)
        | (refine CALL0.mk _ _ _ _ _ (leL_refl _) (hb ..) rfl ?_; conv => whnf)
        | (refine CALLQ.mk _ _ _ (leL_refl _) (hb ..) rfl ?_; conv => whnf)
        | (refine CALL0.cutBy lvBrackets _ _ _ _ _ (leL_refl _) (hFi ..) rfl ?_; conv => whnf)
        | (refine CALL0.mk _ _ _ _ _ (leL_refl _) (hFi ..) rfl ?_; conv => whnf)
        | (refine CALLQ.mk _ _ _ (leL_refl _) (hFi ..) rfl ?_; conv => whnf)
        | (refine CALL0.cutBy lvBrackets _ _ _ _ _ (leL_refl _) (hBr ..) rfl ?_; conv => whnf)
        | (refine CALL0.mk _ _ _ _ _ (leL_refl _) (hBr ..) rfl ?_; conv => whnf)
        | (refine CALLQ.mk _ _ _ (leL_refl _) (hBr ..) rfl ?_; conv => whnf)
        | (refine CALL0.cutBy lvBrackets _ _ _ _ _ (leL_refl _) (hRf ..) rfl ?_; conv => whnf)
        | (refine CALL0.mk _ _ _ _ _ (leL_refl _) (hRf ..) rfl ?_; conv => whnf)
        | (refine CALLQ.mk _ _ _ (leL_refl _) (hRf ..) rfl ?_; conv => whnf)
        | (refine CALL0.cutBy lvBrackets _ _ _ _ _ (leL_refl _) (hR2 ..) rfl ?_; conv => whnf)
        | (refine CALL0.mk _ _ _ _ _ (leL_refl _) (hR2 ..) rfl ?_; conv => whnf)
        | (refine CALLQ.mk _ _ _ (leL_refl _) (hR2 ..) rfl ?_; conv => whnf)
        | (refine CALL0.cutBy lvBrackets _ _ _ _ _ (leL_refl _) (c_rCheckInduction ..) rfl ?_; conv => whnf)
        | (refine CALL0.mk _ _ _ _ _ (leL_refl _) (c_rCheckInduction ..) rfl ?_; conv => whnf)
        | (refine CALLQ.mk _ _ _ (leL_refl _) (c_rCheckInduction ..) rfl ?_; conv => whnf)
        | (refine CALL0.cutBy lvBrackets _ _ _ _ _ (leL_refl _) (c_rCheckDepth ..) rfl ?_; conv => whnf)
        | (refine CALL0.mk _ _ _ _ _ (leL_refl _) (c_rCheckDepth ..) rfl ?_; conv => whnf)
        | (refine CALLQ.mk _ _ _ (leL_refl _) (c_rCheckDepth ..) rfl ?_; conv => whnf)
        | (refine CALL0.cutBy lvBrackets _ _ _ _ _ (leL_refl _) (hf1 ..) rfl ?_; conv => whnf)
        | (refine CALL0.mk _ _ _ _ _ (leL_refl _) (hf1 ..) rfl ?_; conv => whnf)
        | (refine CALLQ.mk _ _ _ (leL_refl _) (hf1 ..) rfl ?_; conv => whnf)
        | (refine CALL0.cutBy lvBrackets _ _ _ _ _ (leL_refl _) (hf2' ..) rfl ?_; conv => whnf)
        | (refine CALL0.mk _ _ _ _ _ (leL_refl _) (hf2' ..) rfl ?_; conv => whnf)
        | (refine CALLQ.mk _ _ _ (leL_refl _) (hf2' ..) rfl ?_; conv => whnf)
      split
      rotate_left
      · rename_i h
        exact absurd h (by simp [zA])
      conv => whnf
      first
        | refine .mk 0 (by decide +kernel) ?_
        | refine .mk 1 (by decide +kernel) ?_
        | refine .mk 2 (by decide +kernel) ?_
        | refine .mk 3 (by decide +kernel) ?_
        | refine .mk 4 (by decide +kernel) ?_
        | refine .mk 5 (by decide +kernel) ?_
        | refine .mk 6 (by decide +kernel) ?_
        | refine .mk 7 (by decide +kernel) ?_
        | refine .mk 8 (by decide +kernel) ?_
        | refine .mk 9 (by decide +kernel) ?_
        | refine .mk 10 (by decide +kernel) ?_
        | refine .mk 11 (by decide +kernel) ?_
        | refine .mk 12 (by decide +kernel) ?_
        | refine .mk 13 (by decide +kernel) ?_
        | refine .mk 14 (by decide +kernel) ?_
        | refine .mk 15 (by decide +kernel) ?_
        | refine .mk 16 (by decide +kernel) ?_
        | refine .mk 17 (by decide +kernel) ?_
        | refine .mk 18 (by decide +kernel) ?_
        | refine .mk 19 (by decide +kernel) ?_
        | refine .mk 20 (by decide +kernel) ?_
        | refine .mk 21 (by decide +kernel) ?_
        | refine .mk 22 (by decide +kernel) ?_
        | refine .mk 23 (by decide +kernel) ?_
        | refine .mk 24 (by decide +kernel) ?_
        | refine .mk 25 (by decide +kernel) ?_
        | refine .mk 26 (by decide +kernel) ?_
        | refine .mk 27 (by decide +kernel) ?_
        | refine .mk 28 (by decide +kernel) ?_
        | refine .mk 29 (by decide +kernel) ?_
        | refine .mk 30 (by decide +kernel) ?_
        | refine .mk 31 (by decide +kernel) ?_
        | refine .mk 32 (by decide +kernel) ?_
        | refine .mk 33 (by decide +kernel) ?_
        | refine .mk 34 (by decide +kernel) ?_
        | refine .mk 35 (by decide +kernel) ?_
        | refine .mk 36 (by decide +kernel) ?_
        | refine .mk 37 (by decide +kernel) ?_
        | refine .mk 38 (by decide +kernel) ?_
        | refine .mk 39 (by decide +kernel) ?_
        | refine .mk 40 (by decide +kernel) ?_
        | refine .mk 41 (by decide +kernel) ?_
        | refine .mk 42 (by decide +kernel) ?_
        | refine .mk 43 (by decide +kernel) ?_
        | refine .mk 44 (by decide +kernel) ?_
        | refine .mk 45 (by decide +kernel) ?_
        | refine .mk 46 (by decide +kernel) ?_
        | refine .mk 47 (by decide +kernel) ?_
        | refine .mk 48 (by decide +kernel) ?_
        | refine .mk 49 (by decide +kernel) ?_
        | refine .mk 50 (by decide +kernel) ?_
        | refine .mk 51 (by decide +kernel) ?_
        | refine .mk 52 (by decide +kernel) ?_
        | refine .mk 53 (by decide +kernel) ?_
        | refine .mk 54 (by decide +kernel) ?_
        | refine .mk 55 (by decide +kernel) ?_
        | refine .mk 56 (by decide +kernel) ?_
        | refine .mk 57 (by decide +kernel) ?_
        | refine .mk 58 (by decide +kernel) ?_
        | refine .mk 59 (by decide +kernel) ?_
        | refine .mk 60 (by decide +kernel) ?_
        | refine .mk 61 (by decide +kernel) ?_
        | refine .mk 62 (by decide +kernel) ?_
        | refine .mk 63 (by decide +kernel) ?_
        | refine .mk 64 (by decide +kernel) ?_
        | refine .mk 65 (by decide +kernel) ?_
        | refine .mk 66 (by decide +kernel) ?_
        | refine .mk 67 (by decide +kernel) ?_
        | refine .mk 68 (by decide +kernel) ?_
        | refine .mk 69 (by decide +kernel) ?_
        | refine .mk 70 (by decide +kernel) ?_
        | refine .mk 71 (by decide +kernel) ?_
        | refine .mk 72 (by decide +kernel) ?_
        | refine .mk 73 (by decide +kernel) ?_
        | refine .mk 74 (by decide +kernel) ?_
        | refine .mk 75 (by decide +kernel) ?_
        | refine .mk 76 (by decide +kernel) ?_
        | refine .mk 77 (by decide +kernel) ?_
        | refine .mk 78 (by decide +kernel) ?_
        | refine .mk 79 (by decide +kernel) ?_
        | refine .mk 80 (by decide +kernel) ?_
        | refine .mk 81 (by decide +kernel) ?_
        | refine .mk 82 (by decide +kernel) ?_
        | refine .mk 83 (by decide +kernel) ?_
        | refine .mk 84 (by decide +kernel) ?_
        | refine .mk 85 (by decide +kernel) ?_
        | refine .mk 86 (by decide +kernel) ?_
        | refine .mk 87 (by decide +kernel) ?_
        | refine .mk 88 (by decide +kernel) ?_
        | refine .mk 89 (by decide +kernel) ?_
      conv => whnf
      split
      rotate_left
      · rename_i h
        have h' : decide (0 ≤ ring) = false := h
        simp at h' <;> omega
      conv => whnf
      split
      rotate_left
      · rename_i h
        have h' : decide (ring < b.nr) = false := h
        simp at h' <;> omega
      conv => whnf
      first | refine CALLQ.mk _ _ _ (leL_refl _) (hFr _) rfl ?_ | refine CALL0.cutBy lvBrackets _ _ _ _ _ (leL_refl _) (hFr _) rfl ?_ | refine CALL0.mk _ _ _ _ _ (leL_refl _) (hFr _) rfl ?_
      conv => whnf
      first
        | refine .mk 0 (by decide +kernel) ?_
        | refine .mk 1 (by decide +kernel) ?_
        | refine .mk 2 (by decide +kernel) ?_
        | refine .mk 3 (by decide +kernel) ?_
        | refine .mk 4 (by decide +kernel) ?_
        | refine .mk 5 (by decide +kernel) ?_
        | refine .mk 6 (by decide +kernel) ?_
        | refine .mk 7 (by decide +kernel) ?_
        | refine .mk 8 (by decide +kernel) ?_
        | refine .mk 9 (by decide +kernel) ?_
        | refine .mk 10 (by decide +kernel) ?_
        | refine .mk 11 (by decide +kernel) ?_
        | refine .mk 12 (by decide +kernel) ?_
        | refine .mk 13 (by decide +kernel) ?_
        | refine .mk 14 (by decide +kernel) ?_
        | refine .mk 15 (by decide +kernel) ?_
        | refine .mk 16 (by decide +kernel) ?_
        | refine .mk 17 (by decide +kernel) ?_
        | refine .mk 18 (by decide +kernel) ?_
        | refine .mk 19 (by decide +kernel) ?_
        | refine .mk 20 (by decide +kernel) ?_
        | refine .mk 21 (by decide +kernel) ?_
        | refine .mk 22 (by decide +kernel) ?_
        | refine .mk 23 (by decide +kernel) ?_
        | refine .mk 24 (by decide +kernel) ?_
        | refine .mk 25 (by decide +kernel) ?_
        | refine .mk 26 (by decide +kernel) ?_
        | refine .mk 27 (by decide +kernel) ?_
        | refine .mk 28 (by decide +kernel) ?_
        | refine .mk 29 (by decide +kernel) ?_
        | refine .mk 30 (by decide +kernel) ?_
        | refine .mk 31 (by decide +kernel) ?_
        | refine .mk 32 (by decide +kernel) ?_
        | refine .mk 33 (by decide +kernel) ?_
        | refine .mk 34 (by decide +kernel) ?_
        | refine .mk 35 (by decide +kernel) ?_
        | refine .mk 36 (by decide +kernel) ?_
        | refine .mk 37 (by decide +kernel) ?_
        | refine .mk 38 (by decide +kernel) ?_
        | refine .mk 39 (by decide +kernel) ?_
        | refine .mk 40 (by decide +kernel) ?_
        | refine .mk 41 (by decide +kernel) ?_
        | refine .mk 42 (by decide +kernel) ?_
        | refine .mk 43 (by decide +kernel) ?_
        | refine .mk 44 (by decide +kernel) ?_
        | refine .mk 45 (by decide +kernel) ?_
        | refine .mk 46 (by decide +kernel) ?_
        | refine .mk 47 (by decide +kernel) ?_
        | refine .mk 48 (by decide +kernel) ?_
        | refine .mk 49 (by decide +kernel) ?_
        | refine .mk 50 (by decide +kernel) ?_
        | refine .mk 51 (by decide +kernel) ?_
        | refine .mk 52 (by decide +kernel) ?_
        | refine .mk 53 (by decide +kernel) ?_
        | refine .mk 54 (by decide +kernel) ?_
        | refine .mk 55 (by decide +kernel) ?_
        | refine .mk 56 (by decide +kernel) ?_
        | refine .mk 57 (by decide +kernel) ?_
        | refine .mk 58 (by decide +kernel) ?_
        | refine .mk 59 (by decide +kernel) ?_
        | refine .mk 60 (by decide +kernel) ?_
        | refine .mk 61 (by decide +kernel) ?_
        | refine .mk 62 (by decide +kernel) ?_
        | refine .mk 63 (by decide +kernel) ?_
        | refine .mk 64 (by decide +kernel) ?_
        | refine .mk 65 (by decide +kernel) ?_
        | refine .mk 66 (by decide +kernel) ?_
        | refine .mk 67 (by decide +kernel) ?_
        | refine .mk 68 (by decide +kernel) ?_
        | refine .mk 69 (by decide +kernel) ?_
        | refine .mk 70 (by decide +kernel) ?_
        | refine .mk 71 (by decide +kernel) ?_
        | refine .mk 72 (by decide +kernel) ?_
        | refine .mk 73 (by decide +kernel) ?_
        | refine .mk 74 (by decide +kernel) ?_
        | refine .mk 75 (by decide +kernel) ?_
        | refine .mk 76 (by decide +kernel) ?_
        | refine .mk 77 (by decide +kernel) ?_
        | refine .mk 78 (by decide +kernel) ?_
        | refine .mk 79 (by decide +kernel) ?_
        | refine .mk 80 (by decide +kernel) ?_
        | refine .mk 81 (by decide +kernel) ?_
        | refine .mk 82 (by decide +kernel) ?_
        | refine .mk 83 (by decide +kernel) ?_
        | refine .mk 84 (by decide +kernel) ?_
        | refine .mk 85 (by decide +kernel) ?_
        | refine .mk 86 (by decide +kernel) ?_
        | refine .mk 87 (by decide +kernel) ?_
        | refine .mk 88 (by decide +kernel) ?_
        | refine .mk 89 (by decide +kernel) ?_
      conv => whnf
      split
      rotate_left
      · rename_i h
        exact absurd h (by simp [zB])
      conv => whnf
      split
      rotate_left
      · rename_i h
        have h' : decide (0 ≤ ring) = false := h
        simp at h' <;> omega
      conv => whnf
      split
      rotate_left
      · rename_i h
        have h' : decide (ring < b.nr) = false := h
        simp at h' <;> omega
      conv => whnf
      first | refine CALLQ.mk _ _ _ (leL_refl _) (hIB _) rfl ?_ | refine CALL0.cutBy lvBrackets _ _ _ _ _ (leL_refl _) (hIB _) rfl ?_ | refine CALL0.mk _ _ _ _ _ (leL_refl _) (hIB _) rfl ?_
      conv => whnf
      split
      rotate_left
      · rename_i h
        exact absurd h (by simp [zB])
      conv => whnf
      repeat first
        | exact ⟨rfl, rfl⟩
        | (split; rotate_left; (rename_i hz; exact absurd hz (by simp [zA, zB])); (conv => whnf))
        | exact ⟨by simp [zA, zB], rfl⟩
    · obtain ⟨n, rfl⟩ : ∃ n, D' = n + 1 := ⟨D' - 1, by omega⟩
      have hsm := (isBr_iff' ok a0).1 hib
      have hsS : (b.br f ring.toNat n).isSome = true := by rw [hsm]; rfl
      have hat : b.at f ring.toNat n = a := by unfold Bl.at; rw [hsm]; rfl
      have hrf := refineR_ok (b := b) (f := f) ⟨gB.1, gB.2⟩ (show ring.toNat < b.nr by omega) (show n + 1 < 12 by omega) hsS
      rw [hat, show ((ring.toNat : Nat) : Int) = ring by omega] at hrf
      rw [hrf] at hRf
      have hf2 := fun up => c_rFind (gl := gl) up b f ring.toNat ok (n + 1) (by omega)
      rw [br_at (br_some_all hsS (n + 1))] at hf2
      have ew : w64 (((n + 1 : Nat) : Int) + 1) = ((n + 1 + 1 : Nat) : Int) := by rw [w64, wrap_in] <;> omega
      rw [← ew] at hf2
      have ew2 : w64 ((n : Int) + 1 + 1) = (n : Int) + 1 + 1 := by rw [w64, wrap_in] <;> omega
      have q12 : (((n + 1 : Nat) : Int) == 12) = false := by simp; omega
      refine mk h_nacellelaw03_RotorBrackets rfl rfl ?_
      conv => whnf
      repeat first
        | (show DRAW _ _ _ _ _; first | refine .mk 0 (by decide +kernel) ?_ | refine .mk 1 (by decide +kernel) ?_ | refine .mk 2 (by decide +kernel) ?_ | refine .mk 3 (by decide +kernel) ?_ | refine .mk 4 (by decide +kernel) ?_ | refine .mk 5 (by decide +kernel) ?_ | refine .mk 6 (by decide +kernel) ?_ | refine .mk 7 (by decide +kernel) ?_ | refine .mk 8 (by decide +kernel) ?_ | refine .mk 9 (by decide +kernel) ?_ | refine .mk 10 (by decide +kernel) ?_ | refine .mk 11 (by decide +kernel) ?_ | refine .mk 12 (by decide +kernel) ?_ | refine .mk 13 (by decide +kernel) ?_ | refine .mk 14 (by decide +kernel) ?_ | refine .mk 15 (by decide +kernel) ?_ | refine .mk 16 (by decide +kernel) ?_ | refine .mk 17 (by decide +kernel) ?_ | refine .mk 18 (by decide +kernel) ?_ | refine .mk 19 (by decide +kernel) ?_ | refine .mk 20 (by decide +kernel) ?_ | refine .mk 21 (by decide +kernel) ?_ | refine .mk 22 (by decide +kernel) ?_ | refine .mk 23 (by decide +kernel) ?_ | refine .mk 24 (by decide +kernel) ?_ | refine .mk 25 (by decide +kernel) ?_ | refine .mk 26 (by decide +kernel) ?_ | refine .mk 27 (by decide +kernel) ?_ | refine .mk 28 (by decide +kernel) ?_ | refine .mk 29 (by decide +kernel) ?_ | refine .mk 30 (by decide +kernel) ?_ | refine .mk 31 (by decide +kernel) ?_ | refine .mk 32 (by decide +kernel) ?_ | refine .mk 33 (by decide +kernel) ?_ | refine .mk 34 (by decide +kernel) ?_ | refine .mk 35 (by decide +kernel) ?_ | refine .mk 36 (by decide +kernel) ?_ | refine .mk 37 (by decide +kernel) ?_ | refine .mk 38 (by decide +kernel) ?_ | refine .mk 39 (by decide +kernel) ?_ | refine .mk 40 (by decide +kernel) ?_ | refine .mk 41 (by decide +kernel) ?_ | refine .mk 42 (by decide +kernel) ?_ | refine .mk 43 (by decide +kernel) ?_ | refine .mk 44 (by decide +kernel) ?_ | refine .mk 45 (by decide +kernel) ?_ | refine .mk 46 (by decide +kernel) ?_ | refine .mk 47 (by decide +kernel) ?_ | refine .mk 48 (by decide +kernel) ?_ | refine .mk 49 (by decide +kernel) ?_ | refine .mk 50 (by decide +kernel) ?_ | refine .mk 51 (by decide +kernel) ?_ | refine .mk 52 (by decide +kernel) ?_ | refine .mk 53 (by decide +kernel) ?_ | refine .mk 54 (by decide +kernel) ?_ | refine .mk 55 (by decide +kernel) ?_ | refine .mk 56 (by decide +kernel) ?_ | refine .mk 57 (by decide +kernel) ?_ | refine .mk 58 (by decide +kernel) ?_ | refine .mk 59 (by decide +kernel) ?_ | refine .mk 60 (by decide +kernel) ?_ | refine .mk 61 (by decide +kernel) ?_ | refine .mk 62 (by decide +kernel) ?_ | refine .mk 63 (by decide +kernel) ?_ | refine .mk 64 (by decide +kernel) ?_ | refine .mk 65 (by decide +kernel) ?_ | refine .mk 66 (by decide +kernel) ?_ | refine .mk 67 (by decide +kernel) ?_ | refine .mk 68 (by decide +kernel) ?_ | refine .mk 69 (by decide +kernel) ?_ | refine .mk 70 (by decide +kernel) ?_ | refine .mk 71 (by decide +kernel) ?_ | refine .mk 72 (by decide +kernel) ?_ | refine .mk 73 (by decide +kernel) ?_ | refine .mk 74 (by decide +kernel) ?_ | refine .mk 75 (by decide +kernel) ?_ | refine .mk 76 (by decide +kernel) ?_ | refine .mk 77 (by decide +kernel) ?_ | refine .mk 78 (by decide +kernel) ?_ | refine .mk 79 (by decide +kernel) ?_ | refine .mk 80 (by decide +kernel) ?_ | refine .mk 81 (by decide +kernel) ?_ | refine .mk 82 (by decide +kernel) ?_ | refine .mk 83 (by decide +kernel) ?_ | refine .mk 84 (by decide +kernel) ?_ | refine .mk 85 (by decide +kernel) ?_ | refine .mk 86 (by decide +kernel) ?_ | refine .mk 87 (by decide +kernel) ?_ | refine .mk 88 (by decide +kernel) ?_ | refine .mk 89 (by decide +kernel) ?_; conv => whnf)
        | (refine CALL0.cutBy lvBrackets _ _ _ _ _ (leL_refl _) (hA ..) rfl ?_; conv => whnf)
        | (refine CALL0.mk _ _ _ _ _ (leL_refl _) (hA ..) rfl ?_; conv => whnf)
        | (refine CALLQ.mk _ _ _ (leL_refl _) (hA ..) rfl ?_; conv => whnf)
        | (refine CALL0.cutBy lvBrackets _ _ _ _ _ (leL_refl _) (hS ..) rfl ?_; conv => whnf)
        | (refine CALL0.mk _ _ _ _ _ (leL_refl _) (hS ..) rfl ?_; conv => whnf)
        | (refine CALLQ.mk _ _ _ (leL_refl _) (hS ..) rfl ?_; conv => whnf)
        | (refine CALL0.cutBy lvBrackets _ _ _ _ _ (leL_refl _) (hb ..) rfl ?_; conv => whnf)
        | (refine CALL0.mk _ _ _ _ _ (leL_refl _) (hb ..) rfl ?_; conv => whnf)
        | (refine CALLQ.mk _ _ _ (leL_refl _) (hb ..) rfl ?_; conv => whnf)
        | (refine CALL0.cutBy lvBrackets _ _ _ _ _ (leL_refl _) (hFi ..) rfl ?_; conv => whnf)
        | (refine CALL0.mk _ _ _ _ _ (leL_refl _) (hFi ..) rfl ?_; conv => whnf)
        | (refine CALLQ.mk _ _ _ (leL_refl _) (hFi ..) rfl ?_; conv => whnf)
        | (refine CALL0.cutBy lvBrackets _ _ _ _ _ (leL_refl _) (hBr ..) rfl ?_; conv => whnf)
        | (refine CALL0.mk _ _ _ _ _ (leL_refl _) (hBr ..) rfl ?_; conv => whnf)
        | (refine CALLQ.mk _ _ _ (leL_refl _) (hBr ..) rfl ?_; conv => whnf)
        | (refine CALL0.cutBy lvBrackets _ _ _ _ _ (leL_refl _) (hRf ..) rfl ?_; conv => whnf)
        | (refine CALL0.mk _ _ _ _ _ (leL_refl _) (hRf ..) rfl ?_; conv => whnf)
        | (refine CALLQ.mk _ _ _ (leL_refl _) (hRf ..) rfl ?_; conv => whnf)
        | (refine CALL0.cutBy lvBrackets _ _ _ _ _ (leL_refl _) (hR2 ..) rfl ?_; conv => whnf)
        | (refine CALL0.mk _ _ _ _ _ (leL_refl _) (hR2 ..) rfl ?_; conv => whnf)
        | (refine CALLQ.mk _ _ _ (leL_refl _) (hR2 ..) rfl ?_; conv => whnf)
        | (refine CALL0.cutBy lvBrackets _ _ _ _ _ (leL_refl _) (c_rCheckInduction ..) rfl ?_; conv => whnf)
        | (refine CALL0.mk _ _ _ _ _ (leL_refl _) (c_rCheckInduction ..) rfl ?_; conv => whnf)
        | (refine CALLQ.mk _ _ _ (leL_refl _) (c_rCheckInduction ..) rfl ?_; conv => whnf)
        | (refine CALL0.cutBy lvBrackets _ _ _ _ _ (leL_refl _) (c_rCheckDepth ..) rfl ?_; conv => whnf)
        | (refine CALL0.mk _ _ _ _ _ (leL_refl _) (c_rCheckDepth ..) rfl ?_; conv => whnf)
        | (refine CALLQ.mk _ _ _ (leL_refl _) (c_rCheckDepth ..) rfl ?_; conv => whnf)
        | (refine CALL0.cutBy lvBrackets _ _ _ _ _ (leL_refl _) (hf1 ..) rfl ?_; conv => whnf)
        | (refine CALL0.mk _ _ _ _ _ (leL_refl _) (hf1 ..) rfl ?_; conv => whnf)
        | (refine CALLQ.mk _ _ _ (leL_refl _) (hf1 ..) rfl ?_; conv => whnf)
        | (refine CALL0.cutBy lvBrackets _ _ _ _ _ (leL_refl _) (hf2' ..) rfl ?_; conv => whnf)
        | (refine CALL0.mk _ _ _ _ _ (leL_refl _) (hf2' ..) rfl ?_; conv => whnf)
        | (refine CALLQ.mk _ _ _ (leL_refl _) (hf2' ..) rfl ?_; conv => whnf)
      split
      rotate_left
      · rename_i h
        exact absurd h (by simp [zA])
      conv => whnf
      first
        | refine .mk 0 (by decide +kernel) ?_
        | refine .mk 1 (by decide +kernel) ?_
        | refine .mk 2 (by decide +kernel) ?_
        | refine .mk 3 (by decide +kernel) ?_
        | refine .mk 4 (by decide +kernel) ?_
        | refine .mk 5 (by decide +kernel) ?_
        | refine .mk 6 (by decide +kernel) ?_
        | refine .mk 7 (by decide +kernel) ?_
        | refine .mk 8 (by decide +kernel) ?_
        | refine .mk 9 (by decide +kernel) ?_
        | refine .mk 10 (by decide +kernel) ?_
        | refine .mk 11 (by decide +kernel) ?_
        | refine .mk 12 (by decide +kernel) ?_
        | refine .mk 13 (by decide +kernel) ?_
        | refine .mk 14 (by decide +kernel) ?_
        | refine .mk 15 (by decide +kernel) ?_
        | refine .mk 16 (by decide +kernel) ?_
        | refine .mk 17 (by decide +kernel) ?_
        | refine .mk 18 (by decide +kernel) ?_
        | refine .mk 19 (by decide +kernel) ?_
        | refine .mk 20 (by decide +kernel) ?_
        | refine .mk 21 (by decide +kernel) ?_
        | refine .mk 22 (by decide +kernel) ?_
        | refine .mk 23 (by decide +kernel) ?_
        | refine .mk 24 (by decide +kernel) ?_
        | refine .mk 25 (by decide +kernel) ?_
        | refine .mk 26 (by decide +kernel) ?_
        | refine .mk 27 (by decide +kernel) ?_
        | refine .mk 28 (by decide +kernel) ?_
        | refine .mk 29 (by decide +kernel) ?_
        | refine .mk 30 (by decide +kernel) ?_
        | refine .mk 31 (by decide +kernel) ?_
        | refine .mk 32 (by decide +kernel) ?_
        | refine .mk 33 (by decide +kernel) ?_
        | refine .mk 34 (by decide +kernel) ?_
        | refine .mk 35 (by decide +kernel) ?_
        | refine .mk 36 (by decide +kernel) ?_
        | refine .mk 37 (by decide +kernel) ?_
        | refine .mk 38 (by decide +kernel) ?_
        | refine .mk 39 (by decide +kernel) ?_
        | refine .mk 40 (by decide +kernel) ?_
        | refine .mk 41 (by decide +kernel) ?_
        | refine .mk 42 (by decide +kernel) ?_
        | refine .mk 43 (by decide +kernel) ?_
        | refine .mk 44 (by decide +kernel) ?_
        | refine .mk 45 (by decide +kernel) ?_
        | refine .mk 46 (by decide +kernel) ?_
        | refine .mk 47 (by decide +kernel) ?_
        | refine .mk 48 (by decide +kernel) ?_
        | refine .mk 49 (by decide +kernel) ?_
        | refine .mk 50 (by decide +kernel) ?_
        | refine .mk 51 (by decide +kernel) ?_
        | refine .mk 52 (by decide +kernel) ?_
        | refine .mk 53 (by decide +kernel) ?_
        | refine .mk 54 (by decide +kernel) ?_
        | refine .mk 55 (by decide +kernel) ?_
        | refine .mk 56 (by decide +kernel) ?_
        | refine .mk 57 (by decide +kernel) ?_
        | refine .mk 58 (by decide +kernel) ?_
        | refine .mk 59 (by decide +kernel) ?_
        | refine .mk 60 (by decide +kernel) ?_
        | refine .mk 61 (by decide +kernel) ?_
        | refine .mk 62 (by decide +kernel) ?_
        | refine .mk 63 (by decide +kernel) ?_
        | refine .mk 64 (by decide +kernel) ?_
        | refine .mk 65 (by decide +kernel) ?_
        | refine .mk 66 (by decide +kernel) ?_
        | refine .mk 67 (by decide +kernel) ?_
        | refine .mk 68 (by decide +kernel) ?_
        | refine .mk 69 (by decide +kernel) ?_
        | refine .mk 70 (by decide +kernel) ?_
        | refine .mk 71 (by decide +kernel) ?_
        | refine .mk 72 (by decide +kernel) ?_
        | refine .mk 73 (by decide +kernel) ?_
        | refine .mk 74 (by decide +kernel) ?_
        | refine .mk 75 (by decide +kernel) ?_
        | refine .mk 76 (by decide +kernel) ?_
        | refine .mk 77 (by decide +kernel) ?_
        | refine .mk 78 (by decide +kernel) ?_
        | refine .mk 79 (by decide +kernel) ?_
        | refine .mk 80 (by decide +kernel) ?_
        | refine .mk 81 (by decide +kernel) ?_
        | refine .mk 82 (by decide +kernel) ?_
        | refine .mk 83 (by decide +kernel) ?_
        | refine .mk 84 (by decide +kernel) ?_
        | refine .mk 85 (by decide +kernel) ?_
        | refine .mk 86 (by decide +kernel) ?_
        | refine .mk 87 (by decide +kernel) ?_
        | refine .mk 88 (by decide +kernel) ?_
        | refine .mk 89 (by decide +kernel) ?_
      conv => whnf
      split
      rotate_left
      · rename_i h
        have h' : decide (0 ≤ ring) = false := h
        simp at h' <;> omega
      conv => whnf
      split
      rotate_left
      · rename_i h
        have h' : decide (ring < b.nr) = false := h
        simp at h' <;> omega
      conv => whnf
      first | refine CALLQ.mk _ _ _ (leL_refl _) (hFr _) rfl ?_ | refine CALL0.cutBy lvBrackets _ _ _ _ _ (leL_refl _) (hFr _) rfl ?_ | refine CALL0.mk _ _ _ _ _ (leL_refl _) (hFr _) rfl ?_
      conv => whnf
      first
        | refine .mk 0 (by decide +kernel) ?_
        | refine .mk 1 (by decide +kernel) ?_
        | refine .mk 2 (by decide +kernel) ?_
        | refine .mk 3 (by decide +kernel) ?_
        | refine .mk 4 (by decide +kernel) ?_
        | refine .mk 5 (by decide +kernel) ?_
        | refine .mk 6 (by decide +kernel) ?_
        | refine .mk 7 (by decide +kernel) ?_
        | refine .mk 8 (by decide +kernel) ?_
        | refine .mk 9 (by decide +kernel) ?_
        | refine .mk 10 (by decide +kernel) ?_
        | refine .mk 11 (by decide +kernel) ?_
        | refine .mk 12 (by decide +kernel) ?_
        | refine .mk 13 (by decide +kernel) ?_
        | refine .mk 14 (by decide +kernel) ?_
        | refine .mk 15 (by decide +kernel) ?_
        | refine .mk 16 (by decide +kernel) ?_
        | refine .mk 17 (by decide +kernel) ?_
        | refine .mk 18 (by decide +kernel) ?_
        | refine .mk 19 (by decide +kernel) ?_
        | refine .mk 20 (by decide +kernel) ?_
        | refine .mk 21 (by decide +kernel) ?_
        | refine .mk 22 (by decide +kernel) ?_
        | refine .mk 23 (by decide +kernel) ?_
        | refine .mk 24 (by decide +kernel) ?_
        | refine .mk 25 (by decide +kernel) ?_
        | refine .mk 26 (by decide +kernel) ?_
        | refine .mk 27 (by decide +kernel) ?_
        | refine .mk 28 (by decide +kernel) ?_
        | refine .mk 29 (by decide +kernel) ?_
        | refine .mk 30 (by decide +kernel) ?_
        | refine .mk 31 (by decide +kernel) ?_
        | refine .mk 32 (by decide +kernel) ?_
        | refine .mk 33 (by decide +kernel) ?_
        | refine .mk 34 (by decide +kernel) ?_
        | refine .mk 35 (by decide +kernel) ?_
        | refine .mk 36 (by decide +kernel) ?_
        | refine .mk 37 (by decide +kernel) ?_
        | refine .mk 38 (by decide +kernel) ?_
        | refine .mk 39 (by decide +kernel) ?_
        | refine .mk 40 (by decide +kernel) ?_
        | refine .mk 41 (by decide +kernel) ?_
        | refine .mk 42 (by decide +kernel) ?_
        | refine .mk 43 (by decide +kernel) ?_
        | refine .mk 44 (by decide +kernel) ?_
        | refine .mk 45 (by decide +kernel) ?_
        | refine .mk 46 (by decide +kernel) ?_
        | refine .mk 47 (by decide +kernel) ?_
        | refine .mk 48 (by decide +kernel) ?_
        | refine .mk 49 (by decide +kernel) ?_
        | refine .mk 50 (by decide +kernel) ?_
        | refine .mk 51 (by decide +kernel) ?_
        | refine .mk 52 (by decide +kernel) ?_
        | refine .mk 53 (by decide +kernel) ?_
        | refine .mk 54 (by decide +kernel) ?_
        | refine .mk 55 (by decide +kernel) ?_
        | refine .mk 56 (by decide +kernel) ?_
        | refine .mk 57 (by decide +kernel) ?_
        | refine .mk 58 (by decide +kernel) ?_
        | refine .mk 59 (by decide +kernel) ?_
        | refine .mk 60 (by decide +kernel) ?_
        | refine .mk 61 (by decide +kernel) ?_
        | refine .mk 62 (by decide +kernel) ?_
        | refine .mk 63 (by decide +kernel) ?_
        | refine .mk 64 (by decide +kernel) ?_
        | refine .mk 65 (by decide +kernel) ?_
        | refine .mk 66 (by decide +kernel) ?_
        | refine .mk 67 (by decide +kernel) ?_
        | refine .mk 68 (by decide +kernel) ?_
        | refine .mk 69 (by decide +kernel) ?_
        | refine .mk 70 (by decide +kernel) ?_
        | refine .mk 71 (by decide +kernel) ?_
        | refine .mk 72 (by decide +kernel) ?_
        | refine .mk 73 (by decide +kernel) ?_
        | refine .mk 74 (by decide +kernel) ?_
        | refine .mk 75 (by decide +kernel) ?_
        | refine .mk 76 (by decide +kernel) ?_
        | refine .mk 77 (by decide +kernel) ?_
        | refine .mk 78 (by decide +kernel) ?_
        | refine .mk 79 (by decide +kernel) ?_
        | refine .mk 80 (by decide +kernel) ?_
        | refine .mk 81 (by decide +kernel) ?_
        | refine .mk 82 (by decide +kernel) ?_
        | refine .mk 83 (by decide +kernel) ?_
        | refine .mk 84 (by decide +kernel) ?_
        | refine .mk 85 (by decide +kernel) ?_
        | refine .mk 86 (by decide +kernel) ?_
        | refine .mk 87 (by decide +kernel) ?_
        | refine .mk 88 (by decide +kernel) ?_
        | refine .mk 89 (by decide +kernel) ?_
      conv => whnf
      split
      rotate_left
      · rename_i h
        exact absurd h (by simp [zB])
      conv => whnf
      split
      rotate_left
      · rename_i h
        have h' : decide (0 ≤ ring) = false := h
        simp at h' <;> omega
      conv => whnf
      split
      rotate_left
      · rename_i h
        have h' : decide (ring < b.nr) = false := h
        simp at h' <;> omega
      conv => whnf
      first | refine CALLQ.mk _ _ _ (leL_refl _) (hIB _) rfl ?_ | refine CALL0.cutBy lvBrackets _ _ _ _ _ (leL_refl _) (hIB _) rfl ?_ | refine CALL0.mk _ _ _ _ _ (leL_refl _) (hIB _) rfl ?_
      conv => whnf
      split
      rotate_left
      · rename_i h
        exact absurd h (by simp [zB])
      conv => whnf
      split
      · rename_i h
        exact Bool.noConfusion ((q12).symm.trans h)
      rename_i hN
      clear hN
      conv => whnf
      split
      rotate_left
      · rename_i h
        exact absurd h (by simp [zB])
      conv => whnf
      first
        | refine .mk 0 (by decide +kernel) ?_
        | refine .mk 1 (by decide +kernel) ?_
        | refine .mk 2 (by decide +kernel) ?_
        | refine .mk 3 (by decide +kernel) ?_
        | refine .mk 4 (by decide +kernel) ?_
        | refine .mk 5 (by decide +kernel) ?_
        | refine .mk 6 (by decide +kernel) ?_
        | refine .mk 7 (by decide +kernel) ?_
        | refine .mk 8 (by decide +kernel) ?_
        | refine .mk 9 (by decide +kernel) ?_
        | refine .mk 10 (by decide +kernel) ?_
        | refine .mk 11 (by decide +kernel) ?_
        | refine .mk 12 (by decide +kernel) ?_
        | refine .mk 13 (by decide +kernel) ?_
        | refine .mk 14 (by decide +kernel) ?_
        | refine .mk 15 (by decide +kernel) ?_
        | refine .mk 16 (by decide +kernel) ?_
        | refine .mk 17 (by decide +kernel) ?_
        | refine .mk 18 (by decide +kernel) ?_
        | refine .mk 19 (by decide +kernel) ?_
        | refine .mk 20 (by decide +kernel) ?_
        | refine .mk 21 (by decide +kernel) ?_
        | refine .mk 22 (by decide +kernel) ?_
        | refine .mk 23 (by decide +kernel) ?_
        | refine .mk 24 (by decide +kernel) ?_
        | refine .mk 25 (by decide +kernel) ?_
        | refine .mk 26 (by decide +kernel) ?_
        | refine .mk 27 (by decide +kernel) ?_
        | refine .mk 28 (by decide +kernel) ?_
        | refine .mk 29 (by decide +kernel) ?_
        | refine .mk 30 (by decide +kernel) ?_
        | refine .mk 31 (by decide +kernel) ?_
        | refine .mk 32 (by decide +kernel) ?_
        | refine .mk 33 (by decide +kernel) ?_
        | refine .mk 34 (by decide +kernel) ?_
        | refine .mk 35 (by decide +kernel) ?_
        | refine .mk 36 (by decide +kernel) ?_
        | refine .mk 37 (by decide +kernel) ?_
        | refine .mk 38 (by decide +kernel) ?_
        | refine .mk 39 (by decide +kernel) ?_
        | refine .mk 40 (by decide +kernel) ?_
        | refine .mk 41 (by decide +kernel) ?_
        | refine .mk 42 (by decide +kernel) ?_
        | refine .mk 43 (by decide +kernel) ?_
        | refine .mk 44 (by decide +kernel) ?_
        | refine .mk 45 (by decide +kernel) ?_
        | refine .mk 46 (by decide +kernel) ?_
        | refine .mk 47 (by decide +kernel) ?_
        | refine .mk 48 (by decide +kernel) ?_
        | refine .mk 49 (by decide +kernel) ?_
        | refine .mk 50 (by decide +kernel) ?_
        | refine .mk 51 (by decide +kernel) ?_
        | refine .mk 52 (by decide +kernel) ?_
        | refine .mk 53 (by decide +kernel) ?_
        | refine .mk 54 (by decide +kernel) ?_
        | refine .mk 55 (by decide +kernel) ?_
        | refine .mk 56 (by decide +kernel) ?_
        | refine .mk 57 (by decide +kernel) ?_
        | refine .mk 58 (by decide +kernel) ?_
        | refine .mk 59 (by decide +kernel) ?_
        | refine .mk 60 (by decide +kernel) ?_
        | refine .mk 61 (by decide +kernel) ?_
        | refine .mk 62 (by decide +kernel) ?_
        | refine .mk 63 (by decide +kernel) ?_
        | refine .mk 64 (by decide +kernel) ?_
        | refine .mk 65 (by decide +kernel) ?_
        | refine .mk 66 (by decide +kernel) ?_
        | refine .mk 67 (by decide +kernel) ?_
        | refine .mk 68 (by decide +kernel) ?_
        | refine .mk 69 (by decide +kernel) ?_
        | refine .mk 70 (by decide +kernel) ?_
        | refine .mk 71 (by decide +kernel) ?_
        | refine .mk 72 (by decide +kernel) ?_
        | refine .mk 73 (by decide +kernel) ?_
        | refine .mk 74 (by decide +kernel) ?_
        | refine .mk 75 (by decide +kernel) ?_
        | refine .mk 76 (by decide +kernel) ?_
        | refine .mk 77 (by decide +kernel) ?_
        | refine .mk 78 (by decide +kernel) ?_
        | refine .mk 79 (by decide +kernel) ?_
        | refine .mk 80 (by decide +kernel) ?_
        | refine .mk 81 (by decide +kernel) ?_
        | refine .mk 82 (by decide +kernel) ?_
        | refine .mk 83 (by decide +kernel) ?_
        | refine .mk 84 (by decide +kernel) ?_
        | refine .mk 85 (by decide +kernel) ?_
        | refine .mk 86 (by decide +kernel) ?_
        | refine .mk 87 (by decide +kernel) ?_
        | refine .mk 88 (by decide +kernel) ?_
        | refine .mk 89 (by decide +kernel) ?_
      conv => whnf
      split
      rotate_left
      · rename_i h
        have h' : decide (0 ≤ ring) = false := h
        simp at h' <;> omega
      conv => whnf
      split
      rotate_left
      · rename_i h
        have h' : decide (ring < b.nr) = false := h
        simp at h' <;> omega
      conv => whnf
      first | refine CALLQ.mk _ _ _ (leL_refl _) (hf2 _) rfl ?_ | refine CALL0.cutBy lvBrackets _ _ _ _ _ (leL_refl _) (hf2 _) rfl ?_ | refine CALL0.mk _ _ _ _ _ (leL_refl _) (hf2 _) rfl ?_
      conv => whnf
      repeat first
        | exact ⟨rfl, rfl⟩
        | (split; rotate_left; (rename_i hz; exact absurd hz (by simp [zA, zB, ew2])); (conv => whnf))
        | exact ⟨by simp [zA, zB, ew2], rfl⟩

set_option maxHeartbeats 8000000 in
theorem brackets_A3 (up : List Ces) (hr : gl g_rotor_roots = rootsI) (hp : gl g_internal_strconv_uint64pow10 = powI) (b : Bl) (f : Fl) (hs : b.short = true) (ring a d x E1 A : Int) (m : Nat) (hm : m < 12) (hE1 : E1 = orE (ringErr b f ring) (withinS ((m + 1 : Nat) : Int) 1 12)) (zA : E1 = 0) (ok0 : b.ok f ring.toNat) (hbr : b.br f ring.toNat m = some A) (s0 : 0 ≤ ring) (s1 : ring < b.nr) :
    Cs gl n_nacellelaw03_RotorBrackets up [b.iv, f.iv, .agg [.int .i64 ring, .int .i64 a, .int .i64 d, .int .i64 x, .int .i64 ((m + 1 : Nat) : Int)]] (.bool true) up := by
  obtain ⟨D, hD⟩ : ∃ D : Int, D = ((m + 1 : Nat) : Int) := ⟨_, rfl⟩
  have hFi := fun up => c_Find (gl := gl) up b f ring ((m + 1 : Nat) : Int)
  have hFr := fun up => c_rFind (gl := gl) up b f ring.toNat ok0 m hm
  rw [findR_z (hE1 ▸ zA), hbr] at hFi
  rw [hbr] at hFr
  rw [← hD] at hE1 hFi hFr ⊢
  obtain ⟨hl, hd, hn⟩ := short_le hs
  have hS := fun up => c_Short (gl := gl) up b
  rw [hs] at hS
  have hA := fun up => c_awake (gl := gl) up hr hp
  have hb := fun up => c_blade (gl := gl) up b hl hd hn
  obtain ⟨E2, hE2⟩ : ∃ E2, E2 = orE (ringErr b f ring) (indErr a d) := ⟨_, rfl⟩
  have k2 : E2 = 0 → 0 ≤ ring ∧ ring < b.nr ∧ b.ok f ring.toNat ∧ (b.err = 0 ∧ f.err = 0) ∧ ∃ D : Nat, d = D ∧ 1 ≤ D ∧ D ≤ 12 ∧ 0 ≤ a ∧ a ≤ 2 ^ (D - 1) := fun h => by
    rw [hE2, orE_zero] at h
    obtain ⟨g1, g2, g3, g4⟩ := ringErr_ok h.1
    obtain ⟨n, rfl, n2, n3, n4⟩ := indErr_ok h.2
    obtain ⟨_, _, _, ok⟩ := Bl.good g1 g2
    exact ⟨g3, g4, ok _ (by omega), ⟨g1, g2⟩, n + 1, rfl, by omega, by omega, n3, by simpa using n4⟩
  have hR2 := fun up => c_rCheckRing (gl := gl) up b f ring
  have hf1 := fun up => c_rfl2 (gl := gl) up (ringErr b f ring) (withinS D 1 12)
  rw [← hE1] at hf1
  have hf2' := fun up => c_rfl2 (gl := gl) up (ringErr b f ring) (indErr a d)
  rw [← hE2] at hf2'
  by_cases zB : E2 = 0
  rotate_left
  · have hRf := fun up => c_Refine (gl := gl) up b f ring a d
    have e0 : orE (brErr b f ring a d) (bif d == 12 then 23 else 0) = E2 := by
      unfold brErr
      rw [← hE2, orE_pos (a := E2) (by simpa using zB), orE_pos (by simpa using zB)]
    have e1 : refineR b f ring a d = .tup [.agg [.int .i64 0, .int .i64 0], .int .i64 E2] := by
      unfold refineR
      simp only
      rw [e0, show (E2 != 0) = true by simpa using zB]; rfl
    have e2 : brErr b f ring a d = E2 := by
      unfold brErr
      rw [← hE2, orE_pos (a := E2) (by simpa using zB)]
    rw [e1] at hRf
    have hBr := fun up => c_CheckBracket (gl := gl) up b f ring a d
    rw [e2] at hBr
    refine mk h_nacellelaw03_RotorBrackets rfl rfl ?_
    conv => whnf
    repeat first
      | (show DRAW _ _ _ _ _; first | refine .mk 0 (by decide +kernel) ?_ | refine .mk 1 (by decide +kernel) ?_ | refine .mk 2 (by decide +kernel) ?_ | refine .mk 3 (by decide +kernel) ?_ | refine .mk 4 (by decide +kernel) ?_ | refine .mk 5 (by decide +kernel) ?_ | refine .mk 6 (by decide +kernel) ?_ | refine .mk 7 (by decide +kernel) ?_ | refine .mk 8 (by decide +kernel) ?_ | refine .mk 9 (by decide +kernel) ?_ | refine .mk 10 (by decide +kernel) ?_ | refine .mk 11 (by decide +kernel) ?_ | refine .mk 12 (by decide +kernel) ?_ | refine .mk 13 (by decide +kernel) ?_ | refine .mk 14 (by decide +kernel) ?_ | refine .mk 15 (by decide +kernel) ?_ | refine .mk 16 (by decide +kernel) ?_ | refine .mk 17 (by decide +kernel) ?_ | refine .mk 18 (by decide +kernel) ?_ | refine .mk 19 (by decide +kernel) ?_ | refine .mk 20 (by decide +kernel) ?_ | refine .mk 21 (by decide +kernel) ?_ | refine .mk 22 (by decide +kernel) ?_ | refine .mk 23 (by decide +kernel) ?_ | refine .mk 24 (by decide +kernel) ?_ | refine .mk 25 (by decide +kernel) ?_ | refine .mk 26 (by decide +kernel) ?_ | refine .mk 27 (by decide +kernel) ?_ | refine .mk 28 (by decide +kernel) ?_ | refine .mk 29 (by decide +kernel) ?_ | refine .mk 30 (by decide +kernel) ?_ | refine .mk 31 (by decide +kernel) ?_ | refine .mk 32 (by decide +kernel) ?_ | refine .mk 33 (by decide +kernel) ?_ | refine .mk 34 (by decide +kernel) ?_ | refine .mk 35 (by decide +kernel) ?_ | refine .mk 36 (by decide +kernel) ?_ | refine .mk 37 (by decide +kernel) ?_ | refine .mk 38 (by decide +kernel) ?_ | refine .mk 39 (by decide +kernel) ?_ | refine .mk 40 (by decide +kernel) ?_ | refine .mk 41 (by decide +kernel) ?_ | refine .mk 42 (by decide +kernel) ?_ | refine .mk 43 (by decide +kernel) ?_ | refine .mk 44 (by decide +kernel) ?_ | refine .mk 45 (by decide +kernel) ?_ | refine .mk 46 (by decide +kernel) ?_ | refine .mk 47 (by decide +kernel) ?_ | refine .mk 48 (by decide +kernel) ?_ | refine .mk 49 (by decide +kernel) ?_ | refine .mk 50 (by decide +kernel) ?_ | refine .mk 51 (by decide +kernel) ?_ | refine .mk 52 (by decide +kernel) ?_ | refine .mk 53 (by decide +kernel) ?_ | refine .mk 54 (by decide +kernel) ?_ | refine .mk 55 (by decide +kernel) ?_ | refine .mk 56 (by decide +kernel) ?_ | refine .mk 57 (by decide +kernel) ?_ | refine .mk 58 (by decide +kernel) ?_ | refine .mk 59 (by decide +kernel) ?_ | refine .mk 60 (by decide +kernel) ?_ | refine .mk 61 (by decide +kernel) ?_ | refine .mk 62 (by decide +kernel) ?_ | refine .mk 63 (by decide +kernel) ?_ | refine .mk 64 (by decide +kernel) ?_ | refine .mk 65 (by decide +kernel) ?_ | refine .mk 66 (by decide +kernel) ?_ | refine .mk 67 (by decide +kernel) ?_ | refine .mk 68 (by decide +kernel) ?_ | refine .mk 69 (by decide +kernel) ?_ | refine .mk 70 (by decide +kernel) ?_ | refine .mk 71 (by decide +kernel) ?_ | refine .mk 72 (by decide +kernel) ?_ | refine .mk 73 (by decide +kernel) ?_ | refine .mk 74 (by decide +kernel) ?_ | refine .mk 75 (by decide +kernel) ?_ | refine .mk 76 (by decide +kernel) ?_ | refine .mk 77 (by decide +kernel) ?_ | refine .mk 78 (by decide +kernel) ?_ | refine .mk 79 (by decide +kernel) ?_ | refine .mk 80 (by decide +kernel) ?_ | refine .mk 81 (by decide +kernel) ?_ | refine .mk 82 (by decide +kernel) ?_ | refine .mk 83 (by decide +kernel) ?_ | refine .mk 84 (by decide +kernel) ?_ | refine .mk 85 (by decide +kernel) ?_ | refine .mk 86 (by decide +kernel) ?_ | refine .mk 87 (by decide +kernel) ?_ | refine .mk 88 (by decide +kernel) ?_ | refine .mk 89 (by decide +kernel) ?_; conv => whnf)
      | (refine CALL0.cutBy lvBrackets _ _ _ _ _ (leL_refl _) (hA ..) rfl ?_; conv => whnf)
      | (refine CALL0.mk _ _ _ _ _ (leL_refl _) (hA ..) rfl ?_; conv => whnf)
      | (refine CALLQ.mk _ _ _ (leL_refl _) (hA ..) rfl ?_; conv => whnf)
      | (refine CALL0.cutBy lvBrackets _ _ _ _ _ (leL_refl _) (hS ..) rfl ?_; conv => whnf)
      | (refine CALL0.mk _ _ _ _ _ (leL_refl _) (hS ..) rfl ?_; conv => whnf)
      | (refine CALLQ.mk _ _ _ (leL_refl _) (hS ..) rfl ?_; conv => whnf)
      | (refine CALL0.cutBy lvBrackets _ _ _ _ _ (leL_refl _) (hb ..) rfl ?_; conv => whnf)
      | (refine CALL0.mk _ _ _ _ _ (leL_refl _) (hb ..) rfl ?_; conv => whnf)
      | (refine CALLQ.mk _ _ _ (leL_refl _) (hb ..) rfl ?_; conv => whnf)
      | (refine CALL0.cutBy lvBrackets _ _ _ _ _ (leL_refl _) (hFi ..) rfl ?_; conv => whnf)
      | (refine CALL0.mk _ _ _ _ _ (leL_refl _) (hFi ..) rfl ?_; conv => whnf)
      | (refine CALLQ.mk _ _ _ (leL_refl _) (hFi ..) rfl ?_; conv => whnf)
      | (refine CALL0.cutBy lvBrackets _ _ _ _ _ (leL_refl _) (hBr ..) rfl ?_; conv => whnf)
      | (refine CALL0.mk _ _ _ _ _ (leL_refl _) (hBr ..) rfl ?_; conv => whnf)
      | (refine CALLQ.mk _ _ _ (leL_refl _) (hBr ..) rfl ?_; conv => whnf)
      | (refine CALL0.cutBy lvBrackets _ _ _ _ _ (leL_refl _) (hRf ..) rfl ?_; conv => whnf)
      | (refine CALL0.mk _ _ _ _ _ (leL_refl _) (hRf ..) rfl ?_; conv => whnf)
      | (refine CALLQ.mk _ _ _ (leL_refl _) (hRf ..) rfl ?_; conv => whnf)
      | (refine CALL0.cutBy lvBrackets _ _ _ _ _ (leL_refl _) (hR2 ..) rfl ?_; conv => whnf)
      | (refine CALL0.mk _ _ _ _ _ (leL_refl _) (hR2 ..) rfl ?_; conv => whnf)
      | (refine CALLQ.mk _ _ _ (leL_refl _) (hR2 ..) rfl ?_; conv => whnf)
      | (refine CALL0.cutBy lvBrackets _ _ _ _ _ (leL_refl _) (c_rCheckInduction ..) rfl ?_; conv => whnf)
      | (refine CALL0.mk _ _ _ _ _ (leL_refl _) (c_rCheckInduction ..) rfl ?_; conv => whnf)
      | (refine CALLQ.mk _ _ _ (leL_refl _) (c_rCheckInduction ..) rfl ?_; conv => whnf)
      | (refine CALL0.cutBy lvBrackets _ _ _ _ _ (leL_refl _) (c_rCheckDepth ..) rfl ?_; conv => whnf)
      | (refine CALL0.mk _ _ _ _ _ (leL_refl _) (c_rCheckDepth ..) rfl ?_; conv => whnf)
      | (refine CALLQ.mk _ _ _ (leL_refl _) (c_rCheckDepth ..) rfl ?_; conv => whnf)
      | (refine CALL0.cutBy lvBrackets _ _ _ _ _ (leL_refl _) (hf1 ..) rfl ?_; conv => whnf)
      | (refine CALL0.mk _ _ _ _ _ (leL_refl _) (hf1 ..) rfl ?_; conv => whnf)
      | (refine CALLQ.mk _ _ _ (leL_refl _) (hf1 ..) rfl ?_; conv => whnf)
      | (refine CALL0.cutBy lvBrackets _ _ _ _ _ (leL_refl _) (hf2' ..) rfl ?_; conv => whnf)
      | (refine CALL0.mk _ _ _ _ _ (leL_refl _) (hf2' ..) rfl ?_; conv => whnf)
      | (refine CALLQ.mk _ _ _ (leL_refl _) (hf2' ..) rfl ?_; conv => whnf)
    split
    rotate_left
    · rename_i h
      exact absurd h (by simp [zA])
    conv => whnf
    first
      | refine .mk 0 (by decide +kernel) ?_
      | refine .mk 1 (by decide +kernel) ?_
      | refine .mk 2 (by decide +kernel) ?_
      | refine .mk 3 (by decide +kernel) ?_
      | refine .mk 4 (by decide +kernel) ?_
      | refine .mk 5 (by decide +kernel) ?_
      | refine .mk 6 (by decide +kernel) ?_
      | refine .mk 7 (by decide +kernel) ?_
      | refine .mk 8 (by decide +kernel) ?_
      | refine .mk 9 (by decide +kernel) ?_
      | refine .mk 10 (by decide +kernel) ?_
      | refine .mk 11 (by decide +kernel) ?_
      | refine .mk 12 (by decide +kernel) ?_
      | refine .mk 13 (by decide +kernel) ?_
      | refine .mk 14 (by decide +kernel) ?_
      | refine .mk 15 (by decide +kernel) ?_
      | refine .mk 16 (by decide +kernel) ?_
      | refine .mk 17 (by decide +kernel) ?_
      | refine .mk 18 (by decide +kernel) ?_
      | refine .mk 19 (by decide +kernel) ?_
      | refine .mk 20 (by decide +kernel) ?_
      | refine .mk 21 (by decide +kernel) ?_
      | refine .mk 22 (by decide +kernel) ?_
      | refine .mk 23 (by decide +kernel) ?_
      | refine .mk 24 (by decide +kernel) ?_
      | refine .mk 25 (by decide +kernel) ?_
      | refine .mk 26 (by decide +kernel) ?_
      | refine .mk 27 (by decide +kernel) ?_
      | refine .mk 28 (by decide +kernel) ?_
      | refine .mk 29 (by decide +kernel) ?_
      | refine .mk 30 (by decide +kernel) ?_
      | refine .mk 31 (by decide +kernel) ?_
      | refine .mk 32 (by decide +kernel) ?_
      | refine .mk 33 (by decide +kernel) ?_
      | refine .mk 34 (by decide +kernel) ?_
      | refine .mk 35 (by decide +kernel) ?_
      | refine .mk 36 (by decide +kernel) ?_
      | refine .mk 37 (by decide +kernel) ?_
      | refine .mk 38 (by decide +kernel) ?_
      | refine .mk 39 (by decide +kernel) ?_
      | refine .mk 40 (by decide +kernel) ?_
      | refine .mk 41 (by decide +kernel) ?_
      | refine .mk 42 (by decide +kernel) ?_
      | refine .mk 43 (by decide +kernel) ?_
      | refine .mk 44 (by decide +kernel) ?_
      | refine .mk 45 (by decide +kernel) ?_
      | refine .mk 46 (by decide +kernel) ?_
      | refine .mk 47 (by decide +kernel) ?_
      | refine .mk 48 (by decide +kernel) ?_
      | refine .mk 49 (by decide +kernel) ?_
      | refine .mk 50 (by decide +kernel) ?_
      | refine .mk 51 (by decide +kernel) ?_
      | refine .mk 52 (by decide +kernel) ?_
      | refine .mk 53 (by decide +kernel) ?_
      | refine .mk 54 (by decide +kernel) ?_
      | refine .mk 55 (by decide +kernel) ?_
      | refine .mk 56 (by decide +kernel) ?_
      | refine .mk 57 (by decide +kernel) ?_
      | refine .mk 58 (by decide +kernel) ?_
      | refine .mk 59 (by decide +kernel) ?_
      | refine .mk 60 (by decide +kernel) ?_
      | refine .mk 61 (by decide +kernel) ?_
      | refine .mk 62 (by decide +kernel) ?_
      | refine .mk 63 (by decide +kernel) ?_
      | refine .mk 64 (by decide +kernel) ?_
      | refine .mk 65 (by decide +kernel) ?_
      | refine .mk 66 (by decide +kernel) ?_
      | refine .mk 67 (by decide +kernel) ?_
      | refine .mk 68 (by decide +kernel) ?_
      | refine .mk 69 (by decide +kernel) ?_
      | refine .mk 70 (by decide +kernel) ?_
      | refine .mk 71 (by decide +kernel) ?_
      | refine .mk 72 (by decide +kernel) ?_
      | refine .mk 73 (by decide +kernel) ?_
      | refine .mk 74 (by decide +kernel) ?_
      | refine .mk 75 (by decide +kernel) ?_
      | refine .mk 76 (by decide +kernel) ?_
      | refine .mk 77 (by decide +kernel) ?_
      | refine .mk 78 (by decide +kernel) ?_
      | refine .mk 79 (by decide +kernel) ?_
      | refine .mk 80 (by decide +kernel) ?_
      | refine .mk 81 (by decide +kernel) ?_
      | refine .mk 82 (by decide +kernel) ?_
      | refine .mk 83 (by decide +kernel) ?_
      | refine .mk 84 (by decide +kernel) ?_
      | refine .mk 85 (by decide +kernel) ?_
      | refine .mk 86 (by decide +kernel) ?_
      | refine .mk 87 (by decide +kernel) ?_
      | refine .mk 88 (by decide +kernel) ?_
      | refine .mk 89 (by decide +kernel) ?_
    conv => whnf
    split
    rotate_left
    · rename_i h
      have h' : decide (0 ≤ ring) = false := h
      simp at h' <;> omega
    conv => whnf
    split
    rotate_left
    · rename_i h
      have h' : decide (ring < b.nr) = false := h
      simp at h' <;> omega
    conv => whnf
    first | refine CALLQ.mk _ _ _ (leL_refl _) (hFr _) rfl ?_ | refine CALL0.cutBy lvBrackets _ _ _ _ _ (leL_refl _) (hFr _) rfl ?_ | refine CALL0.mk _ _ _ _ _ (leL_refl _) (hFr _) rfl ?_
    conv => whnf
    first
      | refine .mk 0 (by decide +kernel) ?_
      | refine .mk 1 (by decide +kernel) ?_
      | refine .mk 2 (by decide +kernel) ?_
      | refine .mk 3 (by decide +kernel) ?_
      | refine .mk 4 (by decide +kernel) ?_
      | refine .mk 5 (by decide +kernel) ?_
      | refine .mk 6 (by decide +kernel) ?_
      | refine .mk 7 (by decide +kernel) ?_
      | refine .mk 8 (by decide +kernel) ?_
      | refine .mk 9 (by decide +kernel) ?_
      | refine .mk 10 (by decide +kernel) ?_
      | refine .mk 11 (by decide +kernel) ?_
      | refine .mk 12 (by decide +kernel) ?_
      | refine .mk 13 (by decide +kernel) ?_
      | refine .mk 14 (by decide +kernel) ?_
      | refine .mk 15 (by decide +kernel) ?_
      | refine .mk 16 (by decide +kernel) ?_
      | refine .mk 17 (by decide +kernel) ?_
      | refine .mk 18 (by decide +kernel) ?_
      | refine .mk 19 (by decide +kernel) ?_
      | refine .mk 20 (by decide +kernel) ?_
      | refine .mk 21 (by decide +kernel) ?_
      | refine .mk 22 (by decide +kernel) ?_
      | refine .mk 23 (by decide +kernel) ?_
      | refine .mk 24 (by decide +kernel) ?_
      | refine .mk 25 (by decide +kernel) ?_
      | refine .mk 26 (by decide +kernel) ?_
      | refine .mk 27 (by decide +kernel) ?_
      | refine .mk 28 (by decide +kernel) ?_
      | refine .mk 29 (by decide +kernel) ?_
      | refine .mk 30 (by decide +kernel) ?_
      | refine .mk 31 (by decide +kernel) ?_
      | refine .mk 32 (by decide +kernel) ?_
      | refine .mk 33 (by decide +kernel) ?_
      | refine .mk 34 (by decide +kernel) ?_
      | refine .mk 35 (by decide +kernel) ?_
      | refine .mk 36 (by decide +kernel) ?_
      | refine .mk 37 (by decide +kernel) ?_
      | refine .mk 38 (by decide +kernel) ?_
      | refine .mk 39 (by decide +kernel) ?_
      | refine .mk 40 (by decide +kernel) ?_
      | refine .mk 41 (by decide +kernel) ?_
      | refine .mk 42 (by decide +kernel) ?_
      | refine .mk 43 (by decide +kernel) ?_
      | refine .mk 44 (by decide +kernel) ?_
      | refine .mk 45 (by decide +kernel) ?_
      | refine .mk 46 (by decide +kernel) ?_
      | refine .mk 47 (by decide +kernel) ?_
      | refine .mk 48 (by decide +kernel) ?_
      | refine .mk 49 (by decide +kernel) ?_
      | refine .mk 50 (by decide +kernel) ?_
      | refine .mk 51 (by decide +kernel) ?_
      | refine .mk 52 (by decide +kernel) ?_
      | refine .mk 53 (by decide +kernel) ?_
      | refine .mk 54 (by decide +kernel) ?_
      | refine .mk 55 (by decide +kernel) ?_
      | refine .mk 56 (by decide +kernel) ?_
      | refine .mk 57 (by decide +kernel) ?_
      | refine .mk 58 (by decide +kernel) ?_
      | refine .mk 59 (by decide +kernel) ?_
      | refine .mk 60 (by decide +kernel) ?_
      | refine .mk 61 (by decide +kernel) ?_
      | refine .mk 62 (by decide +kernel) ?_
      | refine .mk 63 (by decide +kernel) ?_
      | refine .mk 64 (by decide +kernel) ?_
      | refine .mk 65 (by decide +kernel) ?_
      | refine .mk 66 (by decide +kernel) ?_
      | refine .mk 67 (by decide +kernel) ?_
      | refine .mk 68 (by decide +kernel) ?_
      | refine .mk 69 (by decide +kernel) ?_
      | refine .mk 70 (by decide +kernel) ?_
      | refine .mk 71 (by decide +kernel) ?_
      | refine .mk 72 (by decide +kernel) ?_
      | refine .mk 73 (by decide +kernel) ?_
      | refine .mk 74 (by decide +kernel) ?_
      | refine .mk 75 (by decide +kernel) ?_
      | refine .mk 76 (by decide +kernel) ?_
      | refine .mk 77 (by decide +kernel) ?_
      | refine .mk 78 (by decide +kernel) ?_
      | refine .mk 79 (by decide +kernel) ?_
      | refine .mk 80 (by decide +kernel) ?_
      | refine .mk 81 (by decide +kernel) ?_
      | refine .mk 82 (by decide +kernel) ?_
      | refine .mk 83 (by decide +kernel) ?_
      | refine .mk 84 (by decide +kernel) ?_
      | refine .mk 85 (by decide +kernel) ?_
      | refine .mk 86 (by decide +kernel) ?_
      | refine .mk 87 (by decide +kernel) ?_
      | refine .mk 88 (by decide +kernel) ?_
      | refine .mk 89 (by decide +kernel) ?_
    conv => whnf
    split
    · rename_i h
      exact absurd h (by simp [zB])
    rename_i hN
    clear hN
    conv => whnf
    split
    · rename_i h
      exact absurd h (by simp [zB])
    rename_i hN
    clear hN
    conv => whnf
    split
    · rename_i h
      exact absurd h (by simp [zB])
    rename_i hN
    clear hN
    conv => whnf
    split
    rotate_left
    (rename_i hz; exact absurd hz (by simp))
    conv => whnf
    repeat first
      | exact ⟨rfl, rfl⟩
      | (split; rotate_left; (rename_i hz; exact absurd hz (by simp [zA])); (conv => whnf))
      | exact ⟨by simp [zA], rfl⟩
  obtain ⟨r0, r1, ok, gB, D', rfl, d1, d2, a0, a1⟩ := k2 zB
  have hIB := fun up => c_rIsBracket (gl := gl) up b f ring.toNat ok a D' d1 d2 a0 a1
  have e20 : brErr b f ring a D' = bif isBr b f ring.toNat a D' then 0 else 22 := by
    unfold brErr
    rw [← hE2, zB, show ((D' : Nat) : Int).toNat = D' by omega]
    cases isBr b f ring.toNat a D' <;> rfl
  cases hib : isBr b f ring.toNat a D' with
  | false =>
    rw [hib] at hIB e20
    have e20 : brErr b f ring a D' = 22 := e20
    have hBr := fun up => c_CheckBracket (gl := gl) up b f ring a D'
    rw [e20] at hBr
    have hRf := fun up => c_Refine (gl := gl) up b f ring a D'
    have e1 : refineR b f ring a D' = .tup [.agg [.int .i64 0, .int .i64 0], .int .i64 22] := by
      unfold refineR
      simp only
      rw [e20]; rfl
    rw [e1] at hRf
    refine mk h_nacellelaw03_RotorBrackets rfl rfl ?_
    conv => whnf
    repeat first
      | (show DRAW _ _ _ _ _; first | refine .mk 0 (by decide +kernel) ?_ | refine .mk 1 (by decide +kernel) ?_ | refine .mk 2 (by decide +kernel) ?_ | refine .mk 3 (by decide +kernel) ?_ | refine .mk 4 (by decide +kernel) ?_ | refine .mk 5 (by decide +kernel) ?_ | refine .mk 6 (by decide +kernel) ?_ | refine .mk 7 (by decide +kernel) ?_ | refine .mk 8 (by decide +kernel) ?_ | refine .mk 9 (by decide +kernel) ?_ | refine .mk 10 (by decide +kernel) ?_ | refine .mk 11 (by decide +kernel) ?_ | refine .mk 12 (by decide +kernel) ?_ | refine .mk 13 (by decide +kernel) ?_ | refine .mk 14 (by decide +kernel) ?_ | refine .mk 15 (by decide +kernel) ?_ | refine .mk 16 (by decide +kernel) ?_ | refine .mk 17 (by decide +kernel) ?_ | refine .mk 18 (by decide +kernel) ?_ | refine .mk 19 (by decide +kernel) ?_ | refine .mk 20 (by decide +kernel) ?_ | refine .mk 21 (by decide +kernel) ?_ | refine .mk 22 (by decide +kernel) ?_ | refine .mk 23 (by decide +kernel) ?_ | refine .mk 24 (by decide +kernel) ?_ | refine .mk 25 (by decide +kernel) ?_ | refine .mk 26 (by decide +kernel) ?_ | refine .mk 27 (by decide +kernel) ?_ | refine .mk 28 (by decide +kernel) ?_ | refine .mk 29 (by decide +kernel) ?_ | refine .mk 30 (by decide +kernel) ?_ | refine .mk 31 (by decide +kernel) ?_ | refine .mk 32 (by decide +kernel) ?_ | refine .mk 33 (by decide +kernel) ?_ | refine .mk 34 (by decide +kernel) ?_ | refine .mk 35 (by decide +kernel) ?_ | refine .mk 36 (by decide +kernel) ?_ | refine .mk 37 (by decide +kernel) ?_ | refine .mk 38 (by decide +kernel) ?_ | refine .mk 39 (by decide +kernel) ?_ | refine .mk 40 (by decide +kernel) ?_ | refine .mk 41 (by decide +kernel) ?_ | refine .mk 42 (by decide +kernel) ?_ | refine .mk 43 (by decide +kernel) ?_ | refine .mk 44 (by decide +kernel) ?_ | refine .mk 45 (by decide +kernel) ?_ | refine .mk 46 (by decide +kernel) ?_ | refine .mk 47 (by decide +kernel) ?_ | refine .mk 48 (by decide +kernel) ?_ | refine .mk 49 (by decide +kernel) ?_ | refine .mk 50 (by decide +kernel) ?_ | refine .mk 51 (by decide +kernel) ?_ | refine .mk 52 (by decide +kernel) ?_ | refine .mk 53 (by decide +kernel) ?_ | refine .mk 54 (by decide +kernel) ?_ | refine .mk 55 (by decide +kernel) ?_ | refine .mk 56 (by decide +kernel) ?_ | refine .mk 57 (by decide +kernel) ?_ | refine .mk 58 (by decide +kernel) ?_ | refine .mk 59 (by decide +kernel) ?_ | refine .mk 60 (by decide +kernel) ?_ | refine .mk 61 (by decide +kernel) ?_ | refine .mk 62 (by decide +kernel) ?_ | refine .mk 63 (by decide +kernel) ?_ | refine .mk 64 (by decide +kernel) ?_ | refine .mk 65 (by decide +kernel) ?_ | refine .mk 66 (by decide +kernel) ?_ | refine .mk 67 (by decide +kernel) ?_ | refine .mk 68 (by decide +kernel) ?_ | refine .mk 69 (by decide +kernel) ?_ | refine .mk 70 (by decide +kernel) ?_ | refine .mk 71 (by decide +kernel) ?_ | refine .mk 72 (by decide +kernel) ?_ | refine .mk 73 (by decide +kernel) ?_ | refine .mk 74 (by decide +kernel) ?_ | refine .mk 75 (by decide +kernel) ?_ | refine .mk 76 (by decide +kernel) ?_ | refine .mk 77 (by decide +kernel) ?_ | refine .mk 78 (by decide +kernel) ?_ | refine .mk 79 (by decide +kernel) ?_ | refine .mk 80 (by decide +kernel) ?_ | refine .mk 81 (by decide +kernel) ?_ | refine .mk 82 (by decide +kernel) ?_ | refine .mk 83 (by decide +kernel) ?_ | refine .mk 84 (by decide +kernel) ?_ | refine .mk 85 (by decide +kernel) ?_ | refine .mk 86 (by decide +kernel) ?_ | refine .mk 87 (by decide +kernel) ?_ | refine .mk 88 (by decide +kernel) ?_ | refine .mk 89 (by decide +kernel) ?_; conv => whnf)
      | (refine CALL0.cutBy lvBrackets _ _ _ _ _ (leL_refl _) (hA ..) rfl ?_; conv => whnf)
      | (refine CALL0.mk _ _ _ _ _ (leL_refl _) (hA ..) rfl ?_; conv => whnf)
      | (refine CALLQ.mk _ _ _ (leL_refl _) (hA ..) rfl ?_; conv => whnf)
      | (refine CALL0.cutBy lvBrackets _ _ _ _ _ (leL_refl _) (hS ..) rfl ?_; conv => whnf)
      | (refine CALL0.mk _ _ _ _ _ (leL_refl _) (hS ..) rfl ?_; conv => whnf)
      | (refine CALLQ.mk _ _ _ (leL_refl _) (hS ..) rfl ?_; conv => whnf)
      | (refine CALL0.cutBy lvBrackets _ _ _ _ _ (leL_refl _) (hb ..) rfl ?_; conv => whnf)
      | (refine CALL0.mk _ _ _ _ _ (leL_refl _) (hb ..) rfl ?_; conv => whnf)
      | (refine CALLQ.mk _ _ _ (leL_refl _) (hb ..) rfl ?_; conv => whnf)
      | (refine CALL0.cutBy lvBrackets _ _ _ _ _ (leL_refl _) (hFi ..) rfl ?_; conv => whnf)
      | (refine CALL0.mk _ _ _ _ _ (leL_refl _) (hFi ..) rfl ?_; conv => whnf)
      | (refine CALLQ.mk _ _ _ (leL_refl _) (hFi ..) rfl ?_; conv => whnf)
      | (refine CALL0.cutBy lvBrackets _ _ _ _ _ (leL_refl _) (hBr ..) rfl ?_; conv => whnf)
      | (refine CALL0.mk _ _ _ _ _ (leL_refl _) (hBr ..) rfl ?_; conv => whnf)
      | (refine CALLQ.mk _ _ _ (leL_refl _) (hBr ..) rfl ?_; conv => whnf)
      | (refine CALL0.cutBy lvBrackets _ _ _ _ _ (leL_refl _) (hRf ..) rfl ?_; conv => whnf)
      | (refine CALL0.mk _ _ _ _ _ (leL_refl _) (hRf ..) rfl ?_; conv => whnf)
      | (refine CALLQ.mk _ _ _ (leL_refl _) (hRf ..) rfl ?_; conv => whnf)
      | (refine CALL0.cutBy lvBrackets _ _ _ _ _ (leL_refl _) (hR2 ..) rfl ?_; conv => whnf)
      | (refine CALL0.mk _ _ _ _ _ (leL_refl _) (hR2 ..) rfl ?_; conv => whnf)
      | (refine CALLQ.mk _ _ _ (leL_refl _) (hR2 ..) rfl ?_; conv => whnf)
      | (refine CALL0.cutBy lvBrackets _ _ _ _ _ (leL_refl _) (c_rCheckInduction ..) rfl ?_; conv => whnf)
      | (refine CALL0.mk _ _ _ _ _ (leL_refl _) (c_rCheckInduction ..) rfl ?_; conv => whnf)
      | (refine CALLQ.mk _ _ _ (leL_refl _) (c_rCheckInduction ..) rfl ?_; conv => whnf)
      | (refine CALL0.cutBy lvBrackets _ _ _ _ _ (leL_refl _) (c_rCheckDepth ..) rfl ?_; conv => whnf)
      | (refine CALL0.mk _ _ _ _ _ (leL_refl _) (c_rCheckDepth ..) rfl ?_; conv => whnf)
      | (refine CALLQ.mk _ _ _ (leL_refl _) (c_rCheckDepth ..) rfl ?_; conv => whnf)
      | (refine CALL0.cutBy lvBrackets _ _ _ _ _ (leL_refl _) (hf1 ..) rfl ?_; conv => whnf)
      | (refine CALL0.mk _ _ _ _ _ (leL_refl _) (hf1 ..) rfl ?_; conv => whnf)
      | (refine CALLQ.mk _ _ _ (leL_refl _) (hf1 ..) rfl ?_; conv => whnf)
      | (refine CALL0.cutBy lvBrackets _ _ _ _ _ (leL_refl _) (hf2' ..) rfl ?_; conv => whnf)
      | (refine CALL0.mk _ _ _ _ _ (leL_refl _) (hf2' ..) rfl ?_; conv => whnf)
      | (refine CALLQ.mk _ _ _ (leL_refl _) (hf2' ..) rfl ?_; conv => whnf)
    split
    rotate_left
    · rename_i h
      exact absurd h (by simp [zA])
    conv => whnf
    first
      | refine .mk 0 (by decide +kernel) ?_
      | refine .mk 1 (by decide +kernel) ?_
      | refine .mk 2 (by decide +kernel) ?_
      | refine .mk 3 (by decide +kernel) ?_
      | refine .mk 4 (by decide +kernel) ?_
      | refine .mk 5 (by decide +kernel) ?_
      | refine .mk 6 (by decide +kernel) ?_
      | refine .mk 7 (by decide +kernel) ?_
      | refine .mk 8 (by decide +kernel) ?_
      | refine .mk 9 (by decide +kernel) ?_
      | refine .mk 10 (by decide +kernel) ?_
      | refine .mk 11 (by decide +kernel) ?_
      | refine .mk 12 (by decide +kernel) ?_
      | refine .mk 13 (by decide +kernel) ?_
      | refine .mk 14 (by decide +kernel) ?_
      | refine .mk 15 (by decide +kernel) ?_
      | refine .mk 16 (by decide +kernel) ?_
      | refine .mk 17 (by decide +kernel) ?_
      | refine .mk 18 (by decide +kernel) ?_
      | refine .mk 19 (by decide +kernel) ?_
      | refine .mk 20 (by decide +kernel) ?_
      | refine .mk 21 (by decide +kernel) ?_
      | refine .mk 22 (by decide +kernel) ?_
      | refine .mk 23 (by decide +kernel) ?_
      | refine .mk 24 (by decide +kernel) ?_
      | refine .mk 25 (by decide +kernel) ?_
      | refine .mk 26 (by decide +kernel) ?_
      | refine .mk 27 (by decide +kernel) ?_
      | refine .mk 28 (by decide +kernel) ?_
      | refine .mk 29 (by decide +kernel) ?_
      | refine .mk 30 (by decide +kernel) ?_
      | refine .mk 31 (by decide +kernel) ?_
      | refine .mk 32 (by decide +kernel) ?_
      | refine .mk 33 (by decide +kernel) ?_
      | refine .mk 34 (by decide +kernel) ?_
      | refine .mk 35 (by decide +kernel) ?_
      | refine .mk 36 (by decide +kernel) ?_
      | refine .mk 37 (by decide +kernel) ?_
      | refine .mk 38 (by decide +kernel) ?_
      | refine .mk 39 (by decide +kernel) ?_
      | refine .mk 40 (by decide +kernel) ?_
      | refine .mk 41 (by decide +kernel) ?_
      | refine .mk 42 (by decide +kernel) ?_
      | refine .mk 43 (by decide +kernel) ?_
      | refine .mk 44 (by decide +kernel) ?_
      | refine .mk 45 (by decide +kernel) ?_
      | refine .mk 46 (by decide +kernel) ?_
      | refine .mk 47 (by decide +kernel) ?_
      | refine .mk 48 (by decide +kernel) ?_
      | refine .mk 49 (by decide +kernel) ?_
      | refine .mk 50 (by decide +kernel) ?_
      | refine .mk 51 (by decide +kernel) ?_
      | refine .mk 52 (by decide +kernel) ?_
      | refine .mk 53 (by decide +kernel) ?_
      | refine .mk 54 (by decide +kernel) ?_
      | refine .mk 55 (by decide +kernel) ?_
      | refine .mk 56 (by decide +kernel) ?_
      | refine .mk 57 (by decide +kernel) ?_
      | refine .mk 58 (by decide +kernel) ?_
      | refine .mk 59 (by decide +kernel) ?_
      | refine .mk 60 (by decide +kernel) ?_
      | refine .mk 61 (by decide +kernel) ?_
      | refine .mk 62 (by decide +kernel) ?_
      | refine .mk 63 (by decide +kernel) ?_
      | refine .mk 64 (by decide +kernel) ?_
      | refine .mk 65 (by decide +kernel) ?_
      | refine .mk 66 (by decide +kernel) ?_
      | refine .mk 67 (by decide +kernel) ?_
      | refine .mk 68 (by decide +kernel) ?_
      | refine .mk 69 (by decide +kernel) ?_
      | refine .mk 70 (by decide +kernel) ?_
      | refine .mk 71 (by decide +kernel) ?_
      | refine .mk 72 (by decide +kernel) ?_
      | refine .mk 73 (by decide +kernel) ?_
      | refine .mk 74 (by decide +kernel) ?_
      | refine .mk 75 (by decide +kernel) ?_
      | refine .mk 76 (by decide +kernel) ?_
      | refine .mk 77 (by decide +kernel) ?_
      | refine .mk 78 (by decide +kernel) ?_
      | refine .mk 79 (by decide +kernel) ?_
      | refine .mk 80 (by decide +kernel) ?_
      | refine .mk 81 (by decide +kernel) ?_
      | refine .mk 82 (by decide +kernel) ?_
      | refine .mk 83 (by decide +kernel) ?_
      | refine .mk 84 (by decide +kernel) ?_
      | refine .mk 85 (by decide +kernel) ?_
      | refine .mk 86 (by decide +kernel) ?_
      | refine .mk 87 (by decide +kernel) ?_
      | refine .mk 88 (by decide +kernel) ?_
      | refine .mk 89 (by decide +kernel) ?_
    conv => whnf
    split
    rotate_left
    · rename_i h
      have h' : decide (0 ≤ ring) = false := h
      simp at h' <;> omega
    conv => whnf
    split
    rotate_left
    · rename_i h
      have h' : decide (ring < b.nr) = false := h
      simp at h' <;> omega
    conv => whnf
    first | refine CALLQ.mk _ _ _ (leL_refl _) (hFr _) rfl ?_ | refine CALL0.cutBy lvBrackets _ _ _ _ _ (leL_refl _) (hFr _) rfl ?_ | refine CALL0.mk _ _ _ _ _ (leL_refl _) (hFr _) rfl ?_
    conv => whnf
    first
      | refine .mk 0 (by decide +kernel) ?_
      | refine .mk 1 (by decide +kernel) ?_
      | refine .mk 2 (by decide +kernel) ?_
      | refine .mk 3 (by decide +kernel) ?_
      | refine .mk 4 (by decide +kernel) ?_
      | refine .mk 5 (by decide +kernel) ?_
      | refine .mk 6 (by decide +kernel) ?_
      | refine .mk 7 (by decide +kernel) ?_
      | refine .mk 8 (by decide +kernel) ?_
      | refine .mk 9 (by decide +kernel) ?_
      | refine .mk 10 (by decide +kernel) ?_
      | refine .mk 11 (by decide +kernel) ?_
      | refine .mk 12 (by decide +kernel) ?_
      | refine .mk 13 (by decide +kernel) ?_
      | refine .mk 14 (by decide +kernel) ?_
      | refine .mk 15 (by decide +kernel) ?_
      | refine .mk 16 (by decide +kernel) ?_
      | refine .mk 17 (by decide +kernel) ?_
      | refine .mk 18 (by decide +kernel) ?_
      | refine .mk 19 (by decide +kernel) ?_
      | refine .mk 20 (by decide +kernel) ?_
      | refine .mk 21 (by decide +kernel) ?_
      | refine .mk 22 (by decide +kernel) ?_
      | refine .mk 23 (by decide +kernel) ?_
      | refine .mk 24 (by decide +kernel) ?_
      | refine .mk 25 (by decide +kernel) ?_
      | refine .mk 26 (by decide +kernel) ?_
      | refine .mk 27 (by decide +kernel) ?_
      | refine .mk 28 (by decide +kernel) ?_
      | refine .mk 29 (by decide +kernel) ?_
      | refine .mk 30 (by decide +kernel) ?_
      | refine .mk 31 (by decide +kernel) ?_
      | refine .mk 32 (by decide +kernel) ?_
      | refine .mk 33 (by decide +kernel) ?_
      | refine .mk 34 (by decide +kernel) ?_
      | refine .mk 35 (by decide +kernel) ?_
      | refine .mk 36 (by decide +kernel) ?_
      | refine .mk 37 (by decide +kernel) ?_
      | refine .mk 38 (by decide +kernel) ?_
      | refine .mk 39 (by decide +kernel) ?_
      | refine .mk 40 (by decide +kernel) ?_
      | refine .mk 41 (by decide +kernel) ?_
      | refine .mk 42 (by decide +kernel) ?_
      | refine .mk 43 (by decide +kernel) ?_
      | refine .mk 44 (by decide +kernel) ?_
      | refine .mk 45 (by decide +kernel) ?_
      | refine .mk 46 (by decide +kernel) ?_
      | refine .mk 47 (by decide +kernel) ?_
      | refine .mk 48 (by decide +kernel) ?_
      | refine .mk 49 (by decide +kernel) ?_
      | refine .mk 50 (by decide +kernel) ?_
      | refine .mk 51 (by decide +kernel) ?_
      | refine .mk 52 (by decide +kernel) ?_
      | refine .mk 53 (by decide +kernel) ?_
      | refine .mk 54 (by decide +kernel) ?_
      | refine .mk 55 (by decide +kernel) ?_
      | refine .mk 56 (by decide +kernel) ?_
      | refine .mk 57 (by decide +kernel) ?_
      | refine .mk 58 (by decide +kernel) ?_
      | refine .mk 59 (by decide +kernel) ?_
      | refine .mk 60 (by decide +kernel) ?_
      | refine .mk 61 (by decide +kernel) ?_
      | refine .mk 62 (by decide +kernel) ?_
      | refine .mk 63 (by decide +kernel) ?_
      | refine .mk 64 (by decide +kernel) ?_
      | refine .mk 65 (by decide +kernel) ?_
      | refine .mk 66 (by decide +kernel) ?_
      | refine .mk 67 (by decide +kernel) ?_
      | refine .mk 68 (by decide +kernel) ?_
      | refine .mk 69 (by decide +kernel) ?_
      | refine .mk 70 (by decide +kernel) ?_
      | refine .mk 71 (by decide +kernel) ?_
      | refine .mk 72 (by decide +kernel) ?_
      | refine .mk 73 (by decide +kernel) ?_
      | refine .mk 74 (by decide +kernel) ?_
      | refine .mk 75 (by decide +kernel) ?_
      | refine .mk 76 (by decide +kernel) ?_
      | refine .mk 77 (by decide +kernel) ?_
      | refine .mk 78 (by decide +kernel) ?_
      | refine .mk 79 (by decide +kernel) ?_
      | refine .mk 80 (by decide +kernel) ?_
      | refine .mk 81 (by decide +kernel) ?_
      | refine .mk 82 (by decide +kernel) ?_
      | refine .mk 83 (by decide +kernel) ?_
      | refine .mk 84 (by decide +kernel) ?_
      | refine .mk 85 (by decide +kernel) ?_
      | refine .mk 86 (by decide +kernel) ?_
      | refine .mk 87 (by decide +kernel) ?_
      | refine .mk 88 (by decide +kernel) ?_
      | refine .mk 89 (by decide +kernel) ?_
    conv => whnf
    split
    rotate_left
    · rename_i h
      exact absurd h (by simp [zB])
    conv => whnf
    split
    rotate_left
    · rename_i h
      have h' : decide (0 ≤ ring) = false := h
      simp at h' <;> omega
    conv => whnf
    split
    rotate_left
    · rename_i h
      have h' : decide (ring < b.nr) = false := h
      simp at h' <;> omega
    conv => whnf
    first | refine CALLQ.mk _ _ _ (leL_refl _) (hIB _) rfl ?_ | refine CALL0.cutBy lvBrackets _ _ _ _ _ (leL_refl _) (hIB _) rfl ?_ | refine CALL0.mk _ _ _ _ _ (leL_refl _) (hIB _) rfl ?_
    conv => whnf
    repeat first
      | exact ⟨rfl, rfl⟩
      | (split; rotate_left; (rename_i hz; exact absurd hz (by simp [zA])); (conv => whnf))
      | exact ⟨by simp [zA], rfl⟩
  | true =>
    rw [hib] at hIB e20
    have e20 : brErr b f ring a D' = 0 := e20
    have hBr := fun up => c_CheckBracket (gl := gl) up b f ring a D'
    rw [e20] at hBr
    have hRf := fun up => c_Refine (gl := gl) up b f ring a D'
    by_cases h12 : D' = 12
    · subst h12
      have e1 : refineR b f ring a (12 : Nat) = .tup [.agg [.int .i64 0, .int .i64 0], .int .i64 23] := by
        unfold refineR
        simp only
        rw [e20]; rfl
      rw [e1] at hRf
      refine mk h_nacellelaw03_RotorBrackets rfl rfl ?_
      conv => whnf
      repeat first
        | (show DRAW _ _ _ _ _; first | refine .mk 0 (by decide +kernel) ?_ | refine .mk 1 (by decide +kernel) ?_ | refine .mk 2 (by decide +kernel) ?_ | refine .mk 3 (by decide +kernel) ?_ | refine .mk 4 (by decide +kernel) ?_ | refine .mk 5 (by decide +kernel) ?_ | refine .mk 6 (by decide +kernel) ?_ | refine .mk 7 (by decide +kernel) ?_ | refine .mk 8 (by decide +kernel) ?_ | refine .mk 9 (by decide +kernel) ?_ | refine .mk 10 (by decide +kernel) ?_ | refine .mk 11 (by decide +kernel) ?_ | refine .mk 12 (by decide +kernel) ?_ | refine .mk 13 (by decide +kernel) ?_ | refine .mk 14 (by decide +kernel) ?_ | refine .mk 15 (by decide +kernel) ?_ | refine .mk 16 (by decide +kernel) ?_ | refine .mk 17 (by decide +kernel) ?_ | refine .mk 18 (by decide +kernel) ?_ | refine .mk 19 (by decide +kernel) ?_ | refine .mk 20 (by decide +kernel) ?_ | refine .mk 21 (by decide +kernel) ?_ | refine .mk 22 (by decide +kernel) ?_ | refine .mk 23 (by decide +kernel) ?_ | refine .mk 24 (by decide +kernel) ?_ | refine .mk 25 (by decide +kernel) ?_ | refine .mk 26 (by decide +kernel) ?_ | refine .mk 27 (by decide +kernel) ?_ | refine .mk 28 (by decide +kernel) ?_ | refine .mk 29 (by decide +kernel) ?_ | refine .mk 30 (by decide +kernel) ?_ | refine .mk 31 (by decide +kernel) ?_ | refine .mk 32 (by decide +kernel) ?_ | refine .mk 33 (by decide +kernel) ?_ | refine .mk 34 (by decide +kernel) ?_ | refine .mk 35 (by decide +kernel) ?_ | refine .mk 36 (by decide +kernel) ?_ | refine .mk 37 (by decide +kernel) ?_ | refine .mk 38 (by decide +kernel) ?_ | refine .mk 39 (by decide +kernel) ?_ | refine .mk 40 (by decide +kernel) ?_ | refine .mk 41 (by decide +kernel) ?_ | refine .mk 42 (by decide +kernel) ?_ | refine .mk 43 (by decide +kernel) ?_ | refine .mk 44 (by decide +kernel) ?_ | refine .mk 45 (by decide +kernel) ?_ | refine .mk 46 (by decide +kernel) ?_ | refine .mk 47 (by decide +kernel) ?_ | refine .mk 48 (by decide +kernel) ?_ | refine .mk 49 (by decide +kernel) ?_ | refine .mk 50 (by decide +kernel) ?_ | refine .mk 51 (by decide +kernel) ?_ | refine .mk 52 (by decide +kernel) ?_ | refine .mk 53 (by decide +kernel) ?_ | refine .mk 54 (by decide +kernel) ?_ | refine .mk 55 (by decide +kernel) ?_ | refine .mk 56 (by decide +kernel) ?_ | refine .mk 57 (by decide +kernel) ?_ | refine .mk 58 (by decide +kernel) ?_ | refine .mk 59 (by decide +kernel) ?_ | refine .mk 60 (by decide +kernel) ?_ | refine .mk 61 (by decide +kernel) ?_ | refine .mk 62 (by decide +kernel) ?_ | refine .mk 63 (by decide +kernel) ?_ | refine .mk 64 (by decide +kernel) ?_ | refine .mk 65 (by decide +kernel) ?_ | refine .mk 66 (by decide +kernel) ?_ | refine .mk 67 (by decide +kernel) ?_ | refine .mk 68 (by decide +kernel) ?_ | refine .mk 69 (by decide +kernel) ?_ | refine .mk 70 (by decide +kernel) ?_ | refine .mk 71 (by decide +kernel) ?_ | refine .mk 72 (by decide +kernel) ?_ | refine .mk 73 (by decide +kernel) ?_ | refine .mk 74 (by decide +kernel) ?_ | refine .mk 75 (by decide +kernel) ?_ | refine .mk 76 (by decide +kernel) ?_ | refine .mk 77 (by decide +kernel) ?_ | refine .mk 78 (by decide +kernel) ?_ | refine .mk 79 (by decide +kernel) ?_ | refine .mk 80 (by decide +kernel) ?_ | refine .mk 81 (by decide +kernel) ?_ | refine .mk 82 (by decide +kernel) ?_ | refine .mk 83 (by decide +kernel) ?_ | refine .mk 84 (by decide +kernel) ?_ | refine .mk 85 (by decide +kernel) ?_ | refine .mk 86 (by decide +kernel) ?_ | refine .mk 87 (by decide +kernel) ?_ | refine .mk 88 (by decide +kernel) ?_ | refine .mk 89 (by decide +kernel) ?_; conv => whnf)
        | (refine CALL0.cutBy lvBrackets _ _ _ _ _ (leL_refl _) (hA ..) rfl ?_; conv => whnf)
        | (refine CALL0.mk _ _ _ _ _ (leL_refl _) (hA ..) rfl ?_; conv => whnf)
        | (refine CALLQ.mk _ _ _ (leL_refl _) (hA ..) rfl ?_; conv => whnf)
        | (refine CALL0.cutBy lvBrackets _ _ _ _ _ (leL_refl _) (hS ..) rfl ?_; conv => whnf)
        | (refine CALL0.mk _ _ _ _ _ (leL_refl _) (hS ..) rfl ?_; conv => whnf)
        | (refine CALLQ.mk _ _ _ (leL_refl _) (hS ..) rfl ?_; conv => whnf)
        | (refine CALL0.cutBy lvBrackets _ _ _ _ _ (leL_refl _) (hb ..) rfl ?_; conv => whnf)
        | (refine CALL0.mk _ _ _ _ _ (leL_refl _) (hb ..) rfl ?_; conv => whnf)
        | (refine CALLQ.mk _ _ _ (leL_refl _) (hb ..) rfl ?_; conv => whnf)
        | (refine CALL0.cutBy lvBrackets _ _ _ _ _ (leL_refl _) (hFi ..) rfl ?_; conv => whnf)
        | (refine CALL0.mk _ _ _ _ _ (leL_refl _) (hFi ..) rfl ?_; conv => whnf)
        | (refine CALLQ.mk _ _ _ (leL_refl _) (hFi ..) rfl ?_; conv => whnf)
        | (refine CALL0.cutBy lvBrackets _ _ _ _ _ (leL_refl _) (hBr ..) rfl ?_; conv => whnf)
        | (refine CALL0.mk _ _ _ _ _ (leL_refl _) (hBr ..) rfl ?_; conv => whnf)
        | (refine CALLQ.mk _ _ _ (leL_refl _) (hBr ..) rfl ?_; conv => whnf)
        | (refine CALL0.cutBy lvBrackets _ _ _ _ _ (leL_refl _) (hRf ..) rfl ?_; conv => whnf)
        | (refine CALL0.mk _ _ _ _ _ (leL_refl _) (hRf ..) rfl ?_; conv => whnf)
        | (refine CALLQ.mk _ _ _ (leL_refl _) (hRf ..) rfl ?_; conv => whnf)
        | (refine CALL0.cutBy lvBrackets _ _ _ _ _ (leL_refl _) (hR2 ..) rfl ?_; conv => whnf)
        | (refine CALL0.mk _ _ _ _ _ (leL_refl _) (hR2 ..) rfl ?_; conv => whnf)
        | (refine CALLQ.mk _ _ _ (leL_refl _) (hR2 ..) rfl ?_; conv => whnf)
        | (refine CALL0.cutBy lvBrackets _ _ _ _ _ (leL_refl _) (c_rCheckInduction ..) rfl ?_; conv => whnf)
        | (refine CALL0.mk _ _ _ _ _ (leL_refl _) (c_rCheckInduction ..) rfl ?_; conv => whnf)
        | (refine CALLQ.mk _ _ _ (leL_refl _) (c_rCheckInduction ..) rfl ?_; conv => whnf)
        | (refine CALL0.cutBy lvBrackets _ _ _ _ _ (leL_refl _) (c_rCheckDepth ..) rfl ?_; conv => whnf)
        | (refine CALL0.mk _ _ _ _ _ (leL_refl _) (c_rCheckDepth ..) rfl ?_; conv => whnf)
        | (refine CALLQ.mk _ _ _ (leL_refl _) (c_rCheckDepth ..) rfl ?_; conv => whnf)
        | (refine CALL0.cutBy lvBrackets _ _ _ _ _ (leL_refl _) (hf1 ..) rfl ?_; conv => whnf)
        | (refine CALL0.mk _ _ _ _ _ (leL_refl _) (hf1 ..) rfl ?_; conv => whnf)
        | (refine CALLQ.mk _ _ _ (leL_refl _) (hf1 ..) rfl ?_; conv => whnf)
        | (refine CALL0.cutBy lvBrackets _ _ _ _ _ (leL_refl _) (hf2' ..) rfl ?_; conv => whnf)
        | (refine CALL0.mk _ _ _ _ _ (leL_refl _) (hf2' ..) rfl ?_; conv => whnf)
        | (refine CALLQ.mk _ _ _ (leL_refl _) (hf2' ..) rfl ?_; conv => whnf)
      split
      rotate_left
      · rename_i h
        exact absurd h (by simp [zA])
      conv => whnf
      first
        | refine .mk 0 (by decide +kernel) ?_
        | refine .mk 1 (by decide +kernel) ?_
        | refine .mk 2 (by decide +kernel) ?_
        | refine .mk 3 (by decide +kernel) ?_
        | refine .mk 4 (by decide +kernel) ?_
        | refine .mk 5 (by decide +kernel) ?_
        | refine .mk 6 (by decide +kernel) ?_
        | refine .mk 7 (by decide +kernel) ?_
        | refine .mk 8 (by decide +kernel) ?_
        | refine .mk 9 (by decide +kernel) ?_
        | refine .mk 10 (by decide +kernel) ?_
        | refine .mk 11 (by decide +kernel) ?_
        | refine .mk 12 (by decide +kernel) ?_
        | refine .mk 13 (by decide +kernel) ?_
        | refine .mk 14 (by decide +kernel) ?_
        | refine .mk 15 (by decide +kernel) ?_
        | refine .mk 16 (by decide +kernel) ?_
        | refine .mk 17 (by decide +kernel) ?_
        | refine .mk 18 (by decide +kernel) ?_
        | refine .mk 19 (by decide +kernel) ?_
        | refine .mk 20 (by decide +kernel) ?_
        | refine .mk 21 (by decide +kernel) ?_
        | refine .mk 22 (by decide +kernel) ?_
        | refine .mk 23 (by decide +kernel) ?_
        | refine .mk 24 (by decide +kernel) ?_
        | refine .mk 25 (by decide +kernel) ?_
        | refine .mk 26 (by decide +kernel) ?_
        | refine .mk 27 (by decide +kernel) ?_
        | refine .mk 28 (by decide +kernel) ?_
        | refine .mk 29 (by decide +kernel) ?_
        | refine .mk 30 (by decide +kernel) ?_
        | refine .mk 31 (by decide +kernel) ?_
        | refine .mk 32 (by decide +kernel) ?_
        | refine .mk 33 (by decide +kernel) ?_
        | refine .mk 34 (by decide +kernel) ?_
        | refine .mk 35 (by decide +kernel) ?_
        | refine .mk 36 (by decide +kernel) ?_
        | refine .mk 37 (by decide +kernel) ?_
        | refine .mk 38 (by decide +kernel) ?_
        | refine .mk 39 (by decide +kernel) ?_
        | refine .mk 40 (by decide +kernel) ?_
        | refine .mk 41 (by decide +kernel) ?_
        | refine .mk 42 (by decide +kernel) ?_
        | refine .mk 43 (by decide +kernel) ?_
        | refine .mk 44 (by decide +kernel) ?_
        | refine .mk 45 (by decide +kernel) ?_
        | refine .mk 46 (by decide +kernel) ?_
        | refine .mk 47 (by decide +kernel) ?_
        | refine .mk 48 (by decide +kernel) ?_
        | refine .mk 49 (by decide +kernel) ?_
        | refine .mk 50 (by decide +kernel) ?_
        | refine .mk 51 (by decide +kernel) ?_
        | refine .mk 52 (by decide +kernel) ?_
        | refine .mk 53 (by decide +kernel) ?_
        | refine .mk 54 (by decide +kernel) ?_
        | refine .mk 55 (by decide +kernel) ?_
        | refine .mk 56 (by decide +kernel) ?_
        | refine .mk 57 (by decide +kernel) ?_
        | refine .mk 58 (by decide +kernel) ?_
        | refine .mk 59 (by decide +kernel) ?_
        | refine .mk 60 (by decide +kernel) ?_
        | refine .mk 61 (by decide +kernel) ?_
        | refine .mk 62 (by decide +kernel) ?_
        | refine .mk 63 (by decide +kernel) ?_
        | refine .mk 64 (by decide +kernel) ?_
        | refine .mk 65 (by decide +kernel) ?_
        | refine .mk 66 (by decide +kernel) ?_
        | refine .mk 67 (by decide +kernel) ?_
        | refine .mk 68 (by decide +kernel) ?_
        | refine .mk 69 (by decide +kernel) ?_
        | refine .mk 70 (by decide +kernel) ?_
        | refine .mk 71 (by decide +kernel) ?_
        | refine .mk 72 (by decide +kernel) ?_
        | refine .mk 73 (by decide +kernel) ?_
        | refine .mk 74 (by decide +kernel) ?_
        | refine .mk 75 (by decide +kernel) ?_
        | refine .mk 76 (by decide +kernel) ?_
        | refine .mk 77 (by decide +kernel) ?_
        | refine .mk 78 (by decide +kernel) ?_
        | refine .mk 79 (by decide +kernel) ?_
        | refine .mk 80 (by decide +kernel) ?_
        | refine .mk 81 (by decide +kernel) ?_
        | refine .mk 82 (by decide +kernel) ?_
        | refine .mk 83 (by decide +kernel) ?_
        | refine .mk 84 (by decide +kernel) ?_
        | refine .mk 85 (by decide +kernel) ?_
        | refine .mk 86 (by decide +kernel) ?_
        | refine .mk 87 (by decide +kernel) ?_
        | refine .mk 88 (by decide +kernel) ?_
        | refine .mk 89 (by decide +kernel) ?_
      conv => whnf
      split
      rotate_left
      · rename_i h
        have h' : decide (0 ≤ ring) = false := h
        simp at h' <;> omega
      conv => whnf
      split
      rotate_left
      · rename_i h
        have h' : decide (ring < b.nr) = false := h
        simp at h' <;> omega
      conv => whnf
      first | refine CALLQ.mk _ _ _ (leL_refl _) (hFr _) rfl ?_ | refine CALL0.cutBy lvBrackets _ _ _ _ _ (leL_refl _) (hFr _) rfl ?_ | refine CALL0.mk _ _ _ _ _ (leL_refl _) (hFr _) rfl ?_
      conv => whnf
      first
        | refine .mk 0 (by decide +kernel) ?_
        | refine .mk 1 (by decide +kernel) ?_
        | refine .mk 2 (by decide +kernel) ?_
        | refine .mk 3 (by decide +kernel) ?_
        | refine .mk 4 (by decide +kernel) ?_
        | refine .mk 5 (by decide +kernel) ?_
        | refine .mk 6 (by decide +kernel) ?_
        | refine .mk 7 (by decide +kernel) ?_
        | refine .mk 8 (by decide +kernel) ?_
        | refine .mk 9 (by decide +kernel) ?_
        | refine .mk 10 (by decide +kernel) ?_
        | refine .mk 11 (by decide +kernel) ?_
        | refine .mk 12 (by decide +kernel) ?_
        | refine .mk 13 (by decide +kernel) ?_
        | refine .mk 14 (by decide +kernel) ?_
        | refine .mk 15 (by decide +kernel) ?_
        | refine .mk 16 (by decide +kernel) ?_
        | refine .mk 17 (by decide +kernel) ?_
        | refine .mk 18 (by decide +kernel) ?_
        | refine .mk 19 (by decide +kernel) ?_
        | refine .mk 20 (by decide +kernel) ?_
        | refine .mk 21 (by decide +kernel) ?_
        | refine .mk 22 (by decide +kernel) ?_
        | refine .mk 23 (by decide +kernel) ?_
        | refine .mk 24 (by decide +kernel) ?_
        | refine .mk 25 (by decide +kernel) ?_
        | refine .mk 26 (by decide +kernel) ?_
        | refine .mk 27 (by decide +kernel) ?_
        | refine .mk 28 (by decide +kernel) ?_
        | refine .mk 29 (by decide +kernel) ?_
        | refine .mk 30 (by decide +kernel) ?_
        | refine .mk 31 (by decide +kernel) ?_
        | refine .mk 32 (by decide +kernel) ?_
        | refine .mk 33 (by decide +kernel) ?_
        | refine .mk 34 (by decide +kernel) ?_
        | refine .mk 35 (by decide +kernel) ?_
        | refine .mk 36 (by decide +kernel) ?_
        | refine .mk 37 (by decide +kernel) ?_
        | refine .mk 38 (by decide +kernel) ?_
        | refine .mk 39 (by decide +kernel) ?_
        | refine .mk 40 (by decide +kernel) ?_
        | refine .mk 41 (by decide +kernel) ?_
        | refine .mk 42 (by decide +kernel) ?_
        | refine .mk 43 (by decide +kernel) ?_
        | refine .mk 44 (by decide +kernel) ?_
        | refine .mk 45 (by decide +kernel) ?_
        | refine .mk 46 (by decide +kernel) ?_
        | refine .mk 47 (by decide +kernel) ?_
        | refine .mk 48 (by decide +kernel) ?_
        | refine .mk 49 (by decide +kernel) ?_
        | refine .mk 50 (by decide +kernel) ?_
        | refine .mk 51 (by decide +kernel) ?_
        | refine .mk 52 (by decide +kernel) ?_
        | refine .mk 53 (by decide +kernel) ?_
        | refine .mk 54 (by decide +kernel) ?_
        | refine .mk 55 (by decide +kernel) ?_
        | refine .mk 56 (by decide +kernel) ?_
        | refine .mk 57 (by decide +kernel) ?_
        | refine .mk 58 (by decide +kernel) ?_
        | refine .mk 59 (by decide +kernel) ?_
        | refine .mk 60 (by decide +kernel) ?_
        | refine .mk 61 (by decide +kernel) ?_
        | refine .mk 62 (by decide +kernel) ?_
        | refine .mk 63 (by decide +kernel) ?_
        | refine .mk 64 (by decide +kernel) ?_
        | refine .mk 65 (by decide +kernel) ?_
        | refine .mk 66 (by decide +kernel) ?_
        | refine .mk 67 (by decide +kernel) ?_
        | refine .mk 68 (by decide +kernel) ?_
        | refine .mk 69 (by decide +kernel) ?_
        | refine .mk 70 (by decide +kernel) ?_
        | refine .mk 71 (by decide +kernel) ?_
        | refine .mk 72 (by decide +kernel) ?_
        | refine .mk 73 (by decide +kernel) ?_
        | refine .mk 74 (by decide +kernel) ?_
        | refine .mk 75 (by decide +kernel) ?_
        | refine .mk 76 (by decide +kernel) ?_
        | refine .mk 77 (by decide +kernel) ?_
        | refine .mk 78 (by decide +kernel) ?_
        | refine .mk 79 (by decide +kernel) ?_
        | refine .mk 80 (by decide +kernel) ?_
        | refine .mk 81 (by decide +kernel) ?_
        | refine .mk 82 (by decide +kernel) ?_
        | refine .mk 83 (by decide +kernel) ?_
        | refine .mk 84 (by decide +kernel) ?_
        | refine .mk 85 (by decide +kernel) ?_
        | refine .mk 86 (by decide +kernel) ?_
        | refine .mk 87 (by decide +kernel) ?_
        | refine .mk 88 (by decide +kernel) ?_
        | refine .mk 89 (by decide +kernel) ?_
      conv => whnf
      split
      rotate_left
      · rename_i h
        exact absurd h (by simp [zB])
      conv => whnf
      split
      rotate_left
      · rename_i h
        have h' : decide (0 ≤ ring) = false := h
        simp at h' <;> omega
      conv => whnf
      split
      rotate_left
      · rename_i h
        have h' : decide (ring < b.nr) = false := h
        simp at h' <;> omega
      conv => whnf
      first | refine CALLQ.mk _ _ _ (leL_refl _) (hIB _) rfl ?_ | refine CALL0.cutBy lvBrackets _ _ _ _ _ (leL_refl _) (hIB _) rfl ?_ | refine CALL0.mk _ _ _ _ _ (leL_refl _) (hIB _) rfl ?_
      conv => whnf
      split
      rotate_left
      · rename_i h
        exact absurd h (by simp [zB])
      conv => whnf
      repeat first
        | exact ⟨rfl, rfl⟩
        | (split; rotate_left; (rename_i hz; exact absurd hz (by simp [zA, zB])); (conv => whnf))
        | exact ⟨by simp [zA, zB], rfl⟩
    · obtain ⟨n, rfl⟩ : ∃ n, D' = n + 1 := ⟨D' - 1, by omega⟩
      have hsm := (isBr_iff' ok a0).1 hib
      have hsS : (b.br f ring.toNat n).isSome = true := by rw [hsm]; rfl
      have hat : b.at f ring.toNat n = a := by unfold Bl.at; rw [hsm]; rfl
      have hrf := refineR_ok (b := b) (f := f) ⟨gB.1, gB.2⟩ (show ring.toNat < b.nr by omega) (show n + 1 < 12 by omega) hsS
      rw [hat, show ((ring.toNat : Nat) : Int) = ring by omega] at hrf
      rw [hrf] at hRf
      have hf2 := fun up => c_rFind (gl := gl) up b f ring.toNat ok (n + 1) (by omega)
      rw [br_at (br_some_all hsS (n + 1))] at hf2
      have ew : w64 (((n + 1 : Nat) : Int) + 1) = ((n + 1 + 1 : Nat) : Int) := by rw [w64, wrap_in] <;> omega
      rw [← ew] at hf2
      have ew2 : w64 ((n : Int) + 1 + 1) = (n : Int) + 1 + 1 := by rw [w64, wrap_in] <;> omega
      have q12 : (((n + 1 : Nat) : Int) == 12) = false := by simp; omega
      refine mk h_nacellelaw03_RotorBrackets rfl rfl ?_
      conv => whnf
      repeat first
        | (show DRAW _ _ _ _ _; first | refine .mk 0 (by decide +kernel) ?_ | refine .mk 1 (by decide +kernel) ?_ | refine .mk 2 (by decide +kernel) ?_ | refine .mk 3 (by decide +kernel) ?_ | refine .mk 4 (by decide +kernel) ?_ | refine .mk 5 (by decide +kernel) ?_ | refine .mk 6 (by decide +kernel) ?_ | refine .mk 7 (by decide +kernel) ?_ | refine .mk 8 (by decide +kernel) ?_ | refine .mk 9 (by decide +kernel) ?_ | refine .mk 10 (by decide +kernel) ?_ | refine .mk 11 (by decide +kernel) ?_ | refine .mk 12 (by decide +kernel) ?_ | refine .mk 13 (by decide +kernel) ?_ | refine .mk 14 (by decide +kernel) ?_ | refine .mk 15 (by decide +kernel) ?_ | refine .mk 16 (by decide +kernel) ?_ | refine .mk 17 (by decide +kernel) ?_ | refine .mk 18 (by decide +kernel) ?_ | refine .mk 19 (by decide +kernel) ?_ | refine .mk 20 (by decide +kernel) ?_ | refine .mk 21 (by decide +kernel) ?_ | refine .mk 22 (by decide +kernel) ?_ | refine .mk 23 (by decide +kernel) ?_ | refine .mk 24 (by decide +kernel) ?_ | refine .mk 25 (by decide +kernel) ?_ | refine .mk 26 (by decide +kernel) ?_ | refine .mk 27 (by decide +kernel) ?_ | refine .mk 28 (by decide +kernel) ?_ | refine .mk 29 (by decide +kernel) ?_ | refine .mk 30 (by decide +kernel) ?_ | refine .mk 31 (by decide +kernel) ?_ | refine .mk 32 (by decide +kernel) ?_ | refine .mk 33 (by decide +kernel) ?_ | refine .mk 34 (by decide +kernel) ?_ | refine .mk 35 (by decide +kernel) ?_ | refine .mk 36 (by decide +kernel) ?_ | refine .mk 37 (by decide +kernel) ?_ | refine .mk 38 (by decide +kernel) ?_ | refine .mk 39 (by decide +kernel) ?_ | refine .mk 40 (by decide +kernel) ?_ | refine .mk 41 (by decide +kernel) ?_ | refine .mk 42 (by decide +kernel) ?_ | refine .mk 43 (by decide +kernel) ?_ | refine .mk 44 (by decide +kernel) ?_ | refine .mk 45 (by decide +kernel) ?_ | refine .mk 46 (by decide +kernel) ?_ | refine .mk 47 (by decide +kernel) ?_ | refine .mk 48 (by decide +kernel) ?_ | refine .mk 49 (by decide +kernel) ?_ | refine .mk 50 (by decide +kernel) ?_ | refine .mk 51 (by decide +kernel) ?_ | refine .mk 52 (by decide +kernel) ?_ | refine .mk 53 (by decide +kernel) ?_ | refine .mk 54 (by decide +kernel) ?_ | refine .mk 55 (by decide +kernel) ?_ | refine .mk 56 (by decide +kernel) ?_ | refine .mk 57 (by decide +kernel) ?_ | refine .mk 58 (by decide +kernel) ?_ | refine .mk 59 (by decide +kernel) ?_ | refine .mk 60 (by decide +kernel) ?_ | refine .mk 61 (by decide +kernel) ?_ | refine .mk 62 (by decide +kernel) ?_ | refine .mk 63 (by decide +kernel) ?_ | refine .mk 64 (by decide +kernel) ?_ | refine .mk 65 (by decide +kernel) ?_ | refine .mk 66 (by decide +kernel) ?_ | refine .mk 67 (by decide +kernel) ?_ | refine .mk 68 (by decide +kernel) ?_ | refine .mk 69 (by decide +kernel) ?_ | refine .mk 70 (by decide +kernel) ?_ | refine .mk 71 (by decide +kernel) ?_ | refine .mk 72 (by decide +kernel) ?_ | refine .mk 73 (by decide +kernel) ?_ | refine .mk 74 (by decide +kernel) ?_ | refine .mk 75 (by decide +kernel) ?_ | refine .mk 76 (by decide +kernel) ?_ | refine .mk 77 (by decide +kernel) ?_ | refine .mk 78 (by decide +kernel) ?_ | refine .mk 79 (by decide +kernel) ?_ | refine .mk 80 (by decide +kernel) ?_ | refine .mk 81 (by decide +kernel) ?_ | refine .mk 82 (by decide +kernel) ?_ | refine .mk 83 (by decide +kernel) ?_ | refine .mk 84 (by decide +kernel) ?_ | refine .mk 85 (by decide +kernel) ?_ | refine .mk 86 (by decide +kernel) ?_ | refine .mk 87 (by decide +kernel) ?_ | refine .mk 88 (by decide +kernel) ?_ | refine .mk 89 (by decide +kernel) ?_; conv => whnf)
        | (refine CALL0.cutBy lvBrackets _ _ _ _ _ (leL_refl _) (hA ..) rfl ?_; conv => whnf)
        | (refine CALL0.mk _ _ _ _ _ (leL_refl _) (hA ..) rfl ?_; conv => whnf)
        | (refine CALLQ.mk _ _ _ (leL_refl _) (hA ..) rfl ?_; conv => whnf)
        | (refine CALL0.cutBy lvBrackets _ _ _ _ _ (leL_refl _) (hS ..) rfl ?_; conv => whnf)
        | (refine CALL0.mk _ _ _ _ _ (leL_refl _) (hS ..) rfl ?_; conv => whnf)
        | (refine CALLQ.mk _ _ _ (leL_refl _) (hS ..) rfl ?_; conv => whnf)
        | (refine CALL0.cutBy lvBrackets _ _ _ _ _ (leL_refl _) (hb ..) rfl ?_; conv => whnf)
        | (refine CALL0.mk _ _ _ _ _ (leL_refl _) (hb ..) rfl ?_; conv => whnf)
        | (refine CALLQ.mk _ _ _ (leL_refl _) (hb ..) rfl ?_; conv => whnf)
        | (refine CALL0.cutBy lvBrackets _ _ _ _ _ (leL_refl _) (hFi ..) rfl ?_; conv => whnf)
        | (refine CALL0.mk _ _ _ _ _ (leL_refl _) (hFi ..) rfl ?_; conv => whnf)
        | (refine CALLQ.mk _ _ _ (leL_refl _) (hFi ..) rfl ?_; conv => whnf)
        | (refine CALL0.cutBy lvBrackets _ _ _ _ _ (leL_refl _) (hBr ..) rfl ?_; conv => whnf)
        | (refine CALL0.mk _ _ _ _ _ (leL_refl _) (hBr ..) rfl ?_; conv => whnf)
        | (refine CALLQ.mk _ _ _ (leL_refl _) (hBr ..) rfl ?_; conv => whnf)
        | (refine CALL0.cutBy lvBrackets _ _ _ _ _ (leL_refl _) (hRf ..) rfl ?_; conv => whnf)
        | (refine CALL0.mk _ _ _ _ _ (leL_refl _) (hRf ..) rfl ?_; conv => whnf)
        | (refine CALLQ.mk _ _ _ (leL_refl _) (hRf ..) rfl ?_; conv => whnf)
        | (refine CALL0.cutBy lvBrackets _ _ _ _ _ (leL_refl _) (hR2 ..) rfl ?_; conv => whnf)
        | (refine CALL0.mk _ _ _ _ _ (leL_refl _) (hR2 ..) rfl ?_; conv => whnf)
        | (refine CALLQ.mk _ _ _ (leL_refl _) (hR2 ..) rfl ?_; conv => whnf)
        | (refine CALL0.cutBy lvBrackets _ _ _ _ _ (leL_refl _) (c_rCheckInduction ..) rfl ?_; conv => whnf)
        | (refine CALL0.mk _ _ _ _ _ (leL_refl _) (c_rCheckInduction ..) rfl ?_; conv => whnf)
        | (refine CALLQ.mk _ _ _ (leL_refl _) (c_rCheckInduction ..) rfl ?_; conv => whnf)
        | (refine CALL0.cutBy lvBrackets _ _ _ _ _ (leL_refl _) (c_rCheckDepth ..) rfl ?_; conv => whnf)
        | (refine CALL0.mk _ _ _ _ _ (leL_refl _) (c_rCheckDepth ..) rfl ?_; conv => whnf)
        | (refine CALLQ.mk _ _ _ (leL_refl _) (c_rCheckDepth ..) rfl ?_; conv => whnf)
        | (refine CALL0.cutBy lvBrackets _ _ _ _ _ (leL_refl _) (hf1 ..) rfl ?_; conv => whnf)
        | (refine CALL0.mk _ _ _ _ _ (leL_refl _) (hf1 ..) rfl ?_; conv => whnf)
        | (refine CALLQ.mk _ _ _ (leL_refl _) (hf1 ..) rfl ?_; conv => whnf)
        | (refine CALL0.cutBy lvBrackets _ _ _ _ _ (leL_refl _) (hf2' ..) rfl ?_; conv => whnf)
        | (refine CALL0.mk _ _ _ _ _ (leL_refl _) (hf2' ..) rfl ?_; conv => whnf)
        | (refine CALLQ.mk _ _ _ (leL_refl _) (hf2' ..) rfl ?_; conv => whnf)
      split
      rotate_left
      · rename_i h
        exact absurd h (by simp [zA])
      conv => whnf
      first
        | refine .mk 0 (by decide +kernel) ?_
        | refine .mk 1 (by decide +kernel) ?_
        | refine .mk 2 (by decide +kernel) ?_
        | refine .mk 3 (by decide +kernel) ?_
        | refine .mk 4 (by decide +kernel) ?_
        | refine .mk 5 (by decide +kernel) ?_
        | refine .mk 6 (by decide +kernel) ?_
        | refine .mk 7 (by decide +kernel) ?_
        | refine .mk 8 (by decide +kernel) ?_
        | refine .mk 9 (by decide +kernel) ?_
        | refine .mk 10 (by decide +kernel) ?_
        | refine .mk 11 (by decide +kernel) ?_
        | refine .mk 12 (by decide +kernel) ?_
        | refine .mk 13 (by decide +kernel) ?_
        | refine .mk 14 (by decide +kernel) ?_
        | refine .mk 15 (by decide +kernel) ?_
        | refine .mk 16 (by decide +kernel) ?_
        | refine .mk 17 (by decide +kernel) ?_
        | refine .mk 18 (by decide +kernel) ?_
        | refine .mk 19 (by decide +kernel) ?_
        | refine .mk 20 (by decide +kernel) ?_
        | refine .mk 21 (by decide +kernel) ?_
        | refine .mk 22 (by decide +kernel) ?_
        | refine .mk 23 (by decide +kernel) ?_
        | refine .mk 24 (by decide +kernel) ?_
        | refine .mk 25 (by decide +kernel) ?_
        | refine .mk 26 (by decide +kernel) ?_
        | refine .mk 27 (by decide +kernel) ?_
        | refine .mk 28 (by decide +kernel) ?_
        | refine .mk 29 (by decide +kernel) ?_
        | refine .mk 30 (by decide +kernel) ?_
        | refine .mk 31 (by decide +kernel) ?_
        | refine .mk 32 (by decide +kernel) ?_
        | refine .mk 33 (by decide +kernel) ?_
        | refine .mk 34 (by decide +kernel) ?_
        | refine .mk 35 (by decide +kernel) ?_
        | refine .mk 36 (by decide +kernel) ?_
        | refine .mk 37 (by decide +kernel) ?_
        | refine .mk 38 (by decide +kernel) ?_
        | refine .mk 39 (by decide +kernel) ?_
        | refine .mk 40 (by decide +kernel) ?_
        | refine .mk 41 (by decide +kernel) ?_
        | refine .mk 42 (by decide +kernel) ?_
        | refine .mk 43 (by decide +kernel) ?_
        | refine .mk 44 (by decide +kernel) ?_
        | refine .mk 45 (by decide +kernel) ?_
        | refine .mk 46 (by decide +kernel) ?_
        | refine .mk 47 (by decide +kernel) ?_
        | refine .mk 48 (by decide +kernel) ?_
        | refine .mk 49 (by decide +kernel) ?_
        | refine .mk 50 (by decide +kernel) ?_
        | refine .mk 51 (by decide +kernel) ?_
        | refine .mk 52 (by decide +kernel) ?_
        | refine .mk 53 (by decide +kernel) ?_
        | refine .mk 54 (by decide +kernel) ?_
        | refine .mk 55 (by decide +kernel) ?_
        | refine .mk 56 (by decide +kernel) ?_
        | refine .mk 57 (by decide +kernel) ?_
        | refine .mk 58 (by decide +kernel) ?_
        | refine .mk 59 (by decide +kernel) ?_
        | refine .mk 60 (by decide +kernel) ?_
        | refine .mk 61 (by decide +kernel) ?_
        | refine .mk 62 (by decide +kernel) ?_
        | refine .mk 63 (by decide +kernel) ?_
        | refine .mk 64 (by decide +kernel) ?_
        | refine .mk 65 (by decide +kernel) ?_
        | refine .mk 66 (by decide +kernel) ?_
        | refine .mk 67 (by decide +kernel) ?_
        | refine .mk 68 (by decide +kernel) ?_
        | refine .mk 69 (by decide +kernel) ?_
        | refine .mk 70 (by decide +kernel) ?_
        | refine .mk 71 (by decide +kernel) ?_
        | refine .mk 72 (by decide +kernel) ?_
        | refine .mk 73 (by decide +kernel) ?_
        | refine .mk 74 (by decide +kernel) ?_
        | refine .mk 75 (by decide +kernel) ?_
        | refine .mk 76 (by decide +kernel) ?_
        | refine .mk 77 (by decide +kernel) ?_
        | refine .mk 78 (by decide +kernel) ?_
        | refine .mk 79 (by decide +kernel) ?_
        | refine .mk 80 (by decide +kernel) ?_
        | refine .mk 81 (by decide +kernel) ?_
        | refine .mk 82 (by decide +kernel) ?_
        | refine .mk 83 (by decide +kernel) ?_
        | refine .mk 84 (by decide +kernel) ?_
        | refine .mk 85 (by decide +kernel) ?_
        | refine .mk 86 (by decide +kernel) ?_
        | refine .mk 87 (by decide +kernel) ?_
        | refine .mk 88 (by decide +kernel) ?_
        | refine .mk 89 (by decide +kernel) ?_
      conv => whnf
      split
      rotate_left
      · rename_i h
        have h' : decide (0 ≤ ring) = false := h
        simp at h' <;> omega
      conv => whnf
      split
      rotate_left
      · rename_i h
        have h' : decide (ring < b.nr) = false := h
        simp at h' <;> omega
      conv => whnf
      first | refine CALLQ.mk _ _ _ (leL_refl _) (hFr _) rfl ?_ | refine CALL0.cutBy lvBrackets _ _ _ _ _ (leL_refl _) (hFr _) rfl ?_ | refine CALL0.mk _ _ _ _ _ (leL_refl _) (hFr _) rfl ?_
      conv => whnf
      first
        | refine .mk 0 (by decide +kernel) ?_
        | refine .mk 1 (by decide +kernel) ?_
        | refine .mk 2 (by decide +kernel) ?_
        | refine .mk 3 (by decide +kernel) ?_
        | refine .mk 4 (by decide +kernel) ?_
        | refine .mk 5 (by decide +kernel) ?_
        | refine .mk 6 (by decide +kernel) ?_
        | refine .mk 7 (by decide +kernel) ?_
        | refine .mk 8 (by decide +kernel) ?_
        | refine .mk 9 (by decide +kernel) ?_
        | refine .mk 10 (by decide +kernel) ?_
        | refine .mk 11 (by decide +kernel) ?_
        | refine .mk 12 (by decide +kernel) ?_
        | refine .mk 13 (by decide +kernel) ?_
        | refine .mk 14 (by decide +kernel) ?_
        | refine .mk 15 (by decide +kernel) ?_
        | refine .mk 16 (by decide +kernel) ?_
        | refine .mk 17 (by decide +kernel) ?_
        | refine .mk 18 (by decide +kernel) ?_
        | refine .mk 19 (by decide +kernel) ?_
        | refine .mk 20 (by decide +kernel) ?_
        | refine .mk 21 (by decide +kernel) ?_
        | refine .mk 22 (by decide +kernel) ?_
        | refine .mk 23 (by decide +kernel) ?_
        | refine .mk 24 (by decide +kernel) ?_
        | refine .mk 25 (by decide +kernel) ?_
        | refine .mk 26 (by decide +kernel) ?_
        | refine .mk 27 (by decide +kernel) ?_
        | refine .mk 28 (by decide +kernel) ?_
        | refine .mk 29 (by decide +kernel) ?_
        | refine .mk 30 (by decide +kernel) ?_
        | refine .mk 31 (by decide +kernel) ?_
        | refine .mk 32 (by decide +kernel) ?_
        | refine .mk 33 (by decide +kernel) ?_
        | refine .mk 34 (by decide +kernel) ?_
        | refine .mk 35 (by decide +kernel) ?_
        | refine .mk 36 (by decide +kernel) ?_
        | refine .mk 37 (by decide +kernel) ?_
        | refine .mk 38 (by decide +kernel) ?_
        | refine .mk 39 (by decide +kernel) ?_
        | refine .mk 40 (by decide +kernel) ?_
        | refine .mk 41 (by decide +kernel) ?_
        | refine .mk 42 (by decide +kernel) ?_
        | refine .mk 43 (by decide +kernel) ?_
        | refine .mk 44 (by decide +kernel) ?_
        | refine .mk 45 (by decide +kernel) ?_
        | refine .mk 46 (by decide +kernel) ?_
        | refine .mk 47 (by decide +kernel) ?_
        | refine .mk 48 (by decide +kernel) ?_
        | refine .mk 49 (by decide +kernel) ?_
        | refine .mk 50 (by decide +kernel) ?_
        | refine .mk 51 (by decide +kernel) ?_
        | refine .mk 52 (by decide +kernel) ?_
        | refine .mk 53 (by decide +kernel) ?_
        | refine .mk 54 (by decide +kernel) ?_
        | refine .mk 55 (by decide +kernel) ?_
        | refine .mk 56 (by decide +kernel) ?_
        | refine .mk 57 (by decide +kernel) ?_
        | refine .mk 58 (by decide +kernel) ?_
        | refine .mk 59 (by decide +kernel) ?_
        | refine .mk 60 (by decide +kernel) ?_
        | refine .mk 61 (by decide +kernel) ?_
        | refine .mk 62 (by decide +kernel) ?_
        | refine .mk 63 (by decide +kernel) ?_
        | refine .mk 64 (by decide +kernel) ?_
        | refine .mk 65 (by decide +kernel) ?_
        | refine .mk 66 (by decide +kernel) ?_
        | refine .mk 67 (by decide +kernel) ?_
        | refine .mk 68 (by decide +kernel) ?_
        | refine .mk 69 (by decide +kernel) ?_
        | refine .mk 70 (by decide +kernel) ?_
        | refine .mk 71 (by decide +kernel) ?_
        | refine .mk 72 (by decide +kernel) ?_
        | refine .mk 73 (by decide +kernel) ?_
        | refine .mk 74 (by decide +kernel) ?_
        | refine .mk 75 (by decide +kernel) ?_
        | refine .mk 76 (by decide +kernel) ?_
        | refine .mk 77 (by decide +kernel) ?_
        | refine .mk 78 (by decide +kernel) ?_
        | refine .mk 79 (by decide +kernel) ?_
        | refine .mk 80 (by decide +kernel) ?_
        | refine .mk 81 (by decide +kernel) ?_
        | refine .mk 82 (by decide +kernel) ?_
        | refine .mk 83 (by decide +kernel) ?_
        | refine .mk 84 (by decide +kernel) ?_
        | refine .mk 85 (by decide +kernel) ?_
        | refine .mk 86 (by decide +kernel) ?_
        | refine .mk 87 (by decide +kernel) ?_
        | refine .mk 88 (by decide +kernel) ?_
        | refine .mk 89 (by decide +kernel) ?_
      conv => whnf
      split
      rotate_left
      · rename_i h
        exact absurd h (by simp [zB])
      conv => whnf
      split
      rotate_left
      · rename_i h
        have h' : decide (0 ≤ ring) = false := h
        simp at h' <;> omega
      conv => whnf
      split
      rotate_left
      · rename_i h
        have h' : decide (ring < b.nr) = false := h
        simp at h' <;> omega
      conv => whnf
      first | refine CALLQ.mk _ _ _ (leL_refl _) (hIB _) rfl ?_ | refine CALL0.cutBy lvBrackets _ _ _ _ _ (leL_refl _) (hIB _) rfl ?_ | refine CALL0.mk _ _ _ _ _ (leL_refl _) (hIB _) rfl ?_
      conv => whnf
      split
      rotate_left
      · rename_i h
        exact absurd h (by simp [zB])
      conv => whnf
      split
      · rename_i h
        exact Bool.noConfusion ((q12).symm.trans h)
      rename_i hN
      clear hN
      conv => whnf
      split
      rotate_left
      · rename_i h
        exact absurd h (by simp [zB])
      conv => whnf
      first
        | refine .mk 0 (by decide +kernel) ?_
        | refine .mk 1 (by decide +kernel) ?_
        | refine .mk 2 (by decide +kernel) ?_
        | refine .mk 3 (by decide +kernel) ?_
        | refine .mk 4 (by decide +kernel) ?_
        | refine .mk 5 (by decide +kernel) ?_
        | refine .mk 6 (by decide +kernel) ?_
        | refine .mk 7 (by decide +kernel) ?_
        | refine .mk 8 (by decide +kernel) ?_
        | refine .mk 9 (by decide +kernel) ?_
        | refine .mk 10 (by decide +kernel) ?_
        | refine .mk 11 (by decide +kernel) ?_
        | refine .mk 12 (by decide +kernel) ?_
        | refine .mk 13 (by decide +kernel) ?_
        | refine .mk 14 (by decide +kernel) ?_
        | refine .mk 15 (by decide +kernel) ?_
        | refine .mk 16 (by decide +kernel) ?_
        | refine .mk 17 (by decide +kernel) ?_
        | refine .mk 18 (by decide +kernel) ?_
        | refine .mk 19 (by decide +kernel) ?_
        | refine .mk 20 (by decide +kernel) ?_
        | refine .mk 21 (by decide +kernel) ?_
        | refine .mk 22 (by decide +kernel) ?_
        | refine .mk 23 (by decide +kernel) ?_
        | refine .mk 24 (by decide +kernel) ?_
        | refine .mk 25 (by decide +kernel) ?_
        | refine .mk 26 (by decide +kernel) ?_
        | refine .mk 27 (by decide +kernel) ?_
        | refine .mk 28 (by decide +kernel) ?_
        | refine .mk 29 (by decide +kernel) ?_
        | refine .mk 30 (by decide +kernel) ?_
        | refine .mk 31 (by decide +kernel) ?_
        | refine .mk 32 (by decide +kernel) ?_
        | refine .mk 33 (by decide +kernel) ?_
        | refine .mk 34 (by decide +kernel) ?_
        | refine .mk 35 (by decide +kernel) ?_
        | refine .mk 36 (by decide +kernel) ?_
        | refine .mk 37 (by decide +kernel) ?_
        | refine .mk 38 (by decide +kernel) ?_
        | refine .mk 39 (by decide +kernel) ?_
        | refine .mk 40 (by decide +kernel) ?_
        | refine .mk 41 (by decide +kernel) ?_
        | refine .mk 42 (by decide +kernel) ?_
        | refine .mk 43 (by decide +kernel) ?_
        | refine .mk 44 (by decide +kernel) ?_
        | refine .mk 45 (by decide +kernel) ?_
        | refine .mk 46 (by decide +kernel) ?_
        | refine .mk 47 (by decide +kernel) ?_
        | refine .mk 48 (by decide +kernel) ?_
        | refine .mk 49 (by decide +kernel) ?_
        | refine .mk 50 (by decide +kernel) ?_
        | refine .mk 51 (by decide +kernel) ?_
        | refine .mk 52 (by decide +kernel) ?_
        | refine .mk 53 (by decide +kernel) ?_
        | refine .mk 54 (by decide +kernel) ?_
        | refine .mk 55 (by decide +kernel) ?_
        | refine .mk 56 (by decide +kernel) ?_
        | refine .mk 57 (by decide +kernel) ?_
        | refine .mk 58 (by decide +kernel) ?_
        | refine .mk 59 (by decide +kernel) ?_
        | refine .mk 60 (by decide +kernel) ?_
        | refine .mk 61 (by decide +kernel) ?_
        | refine .mk 62 (by decide +kernel) ?_
        | refine .mk 63 (by decide +kernel) ?_
        | refine .mk 64 (by decide +kernel) ?_
        | refine .mk 65 (by decide +kernel) ?_
        | refine .mk 66 (by decide +kernel) ?_
        | refine .mk 67 (by decide +kernel) ?_
        | refine .mk 68 (by decide +kernel) ?_
        | refine .mk 69 (by decide +kernel) ?_
        | refine .mk 70 (by decide +kernel) ?_
        | refine .mk 71 (by decide +kernel) ?_
        | refine .mk 72 (by decide +kernel) ?_
        | refine .mk 73 (by decide +kernel) ?_
        | refine .mk 74 (by decide +kernel) ?_
        | refine .mk 75 (by decide +kernel) ?_
        | refine .mk 76 (by decide +kernel) ?_
        | refine .mk 77 (by decide +kernel) ?_
        | refine .mk 78 (by decide +kernel) ?_
        | refine .mk 79 (by decide +kernel) ?_
        | refine .mk 80 (by decide +kernel) ?_
        | refine .mk 81 (by decide +kernel) ?_
        | refine .mk 82 (by decide +kernel) ?_
        | refine .mk 83 (by decide +kernel) ?_
        | refine .mk 84 (by decide +kernel) ?_
        | refine .mk 85 (by decide +kernel) ?_
        | refine .mk 86 (by decide +kernel) ?_
        | refine .mk 87 (by decide +kernel) ?_
        | refine .mk 88 (by decide +kernel) ?_
        | refine .mk 89 (by decide +kernel) ?_
      conv => whnf
      split
      rotate_left
      · rename_i h
        have h' : decide (0 ≤ ring) = false := h
        simp at h' <;> omega
      conv => whnf
      split
      rotate_left
      · rename_i h
        have h' : decide (ring < b.nr) = false := h
        simp at h' <;> omega
      conv => whnf
      first | refine CALLQ.mk _ _ _ (leL_refl _) (hf2 _) rfl ?_ | refine CALL0.cutBy lvBrackets _ _ _ _ _ (leL_refl _) (hf2 _) rfl ?_ | refine CALL0.mk _ _ _ _ _ (leL_refl _) (hf2 _) rfl ?_
      conv => whnf
      repeat first
        | exact ⟨rfl, rfl⟩
        | (split; rotate_left; (rename_i hz; exact absurd hz (by simp [zA, zB, ew2])); (conv => whnf))
        | exact ⟨by simp [zA, zB, ew2], rfl⟩

theorem c_RotorBrackets (up : List Ces) (hr : gl g_rotor_roots = rootsI) (hp : gl g_internal_strconv_uint64pow10 = powI) (b : Bl) (f : Fl) (ring a d x D : Int) :
    Cs gl n_nacellelaw03_RotorBrackets up [b.iv, f.iv, .agg [.int .i64 ring, .int .i64 a, .int .i64 d, .int .i64 x, .int .i64 D]] (.bool true) up := by
  cases hs : b.short with
  | false => exact brackets_no up hr hp b f hs ring a d x D
  | true =>
  by_cases zA : orE (ringErr b f ring) (withinS D 1 12) = 0
  · have zA' := zA
    rw [orE_zero, withinS_zero] at zA'
    obtain ⟨ge, gf, s0, s1⟩ := ringErr_ok zA'.1
    obtain ⟨m, rfl⟩ : ∃ m : Nat, D = ((m + 1 : Nat) : Int) := ⟨(D - 1).toNat, by omega⟩
    have ok0 := (Bl.good ge gf).2.2.2 ring.toNat (by omega)
    cases hbr : b.br f ring.toNat m with
    | none => exact brackets_A2 up hr hp b f hs ring a d x _ m (by omega) rfl zA ok0 hbr s0 s1
    | some A => exact brackets_A3 up hr hp b f hs ring a d x _ A m (by omega) rfl zA ok0 hbr s0 s1
  · exact brackets_A1 up hr hp b f hs ring a d x D _ rfl zA
end Go.Proofs.YtllmejkmogepjaaGreatDoor.Ix
