/-
  Li1: RotorInflows: the law.
-/
import Derived.Test.YtllmejkmogepjaaDoorM5
namespace Go.Proofs.YtllmejkmogepjaaDoor.Ix
open Go.Proofs
set_option maxRecDepth 100000
set_option linter.unusedVariables false
variable {gl : Nat → IV}

theorem short_le {b : Bl} (h : b.short = true) : b.nl ≤ 1000000 ∧ b.nd ≤ 1000000 ∧ b.nr ≤ 1000000 := by
  unfold Bl.short at h
  simp at h
  omega

theorem inflR_z (b : Bl) (f : Fl) (ring a d : Int) : inflR b f ring a d = .tup [.int .i64 (zE (orE (ringErr b f ring) (indErr a d)) (b.infl f ring.toNat a d.toNat)), .int .i64 (orE (ringErr b f ring) (indErr a d))] := rfl
theorem balR_z (b : Bl) (f : Fl) (ring a d : Int) : balR b f ring a d = .tup [.int .i64 (zE (orE (ringErr b f ring) (indErr a d)) (b.bal f ring.toNat a d.toNat)), .int .i64 (orE (ringErr b f ring) (indErr a d))] := rfl
theorem classR_z (b : Bl) (f : Fl) (ring x : Int) : classR b f ring x = .tup [.int .i64 (zE (orE (ringErr b f ring) (withinS x 0 999999999)) (clsP b.nl (b.r3 ring.toNat) f.p x)), .int .i64 (orE (ringErr b f ring) (withinS x 0 999999999))] := rfl

theorem inflows_no (up : List Ces) (hr : gl g_rotor_roots = rootsI) (hp : gl g_internal_strconv_uint64pow10 = powI) (b : Bl) (f : Fl) (hs : b.short = false) (ring a d x D : Int) :
    Cs gl n_nacellelaw03_RotorInflows up [b.iv, f.iv, .agg [.int .i64 ring, .int .i64 a, .int .i64 d, .int .i64 x, .int .i64 D]] (.bool true) up := by
  refine mk h_nacellelaw03_RotorInflows rfl rfl ?_
  have hS := fun up => c_Short (gl := gl) up b
  rw [hs] at hS
  conv => whnf
  refine .mk _ _ _ _ _ (leL_refl _) (c_awake _ hr hp) rfl ?_
  conv => whnf
  refine .mk _ _ _ _ _ (leL_refl _) (hS _) rfl ?_
  conv => whnf
  refine .mk _ _ _ _ _ (leL_refl _) (c_awake _ hr hp) rfl ?_
  conv => whnf
  exact ⟨rfl, rfl⟩

/-- What is read behind each call. -/
def lvInflows : List (Nat × List Nat) := [(19, [3, 4, 5, 6, 7, 8, 9, 10, 11, 19]), (23, [3, 4, 5, 6, 7, 8, 9, 10, 11, 21, 23]), (26, [3, 4, 5, 6, 7, 8, 9, 10, 11, 26]), (29, [3, 4, 5, 6, 7, 8, 9, 10, 11, 29]), (35, [3, 4, 5, 6, 7, 8, 9, 10, 11, 35]), (40, [3, 4, 5, 6, 7, 8, 9, 10, 11, 40]), (46, [3, 4, 5, 6, 7, 8, 9, 10, 11, 46]), (51, [3, 4, 5, 6, 7, 8, 9, 10, 11, 51]), (57, [3, 4, 5, 6, 7, 8, 9, 10, 11, 57]), (64, [3, 4, 5, 6, 7, 8, 9, 10, 11, 12, 64]), (68, [3, 4, 5, 6, 7, 8, 9, 10, 11, 12, 13, 65, 68]), (70, [3, 4, 5, 6, 7, 8, 9, 10, 11, 12, 13, 70]), (74, [3, 4, 5, 6, 7, 8, 9, 10, 11, 12, 70, 71, 74]), (76, [3, 4, 5, 6, 7, 8, 9, 10, 11, 12, 70, 76]), (88, [3, 4, 5, 6, 7, 8, 9, 10, 11, 12, 14, 15, 16, 17, 18, 88]), (100, [3, 4, 5, 6, 7, 8, 9, 10, 11, 12, 14, 15, 16, 17, 18, 88, 100]), (114, [6, 7, 8, 9, 10, 11, 12, 14, 15, 16, 17, 18, 114]), (119, [6, 9, 10, 11, 12, 14, 15, 17, 18, 119]), (125, [6, 11, 12, 14, 18, 120, 125]), (132, [6, 127, 132])]
set_option maxHeartbeats 8000000 in
theorem inflows_yes (up : List Ces) (hr : gl g_rotor_roots = rootsI) (hp : gl g_internal_strconv_uint64pow10 = powI) (b : Bl) (f : Fl) (hs : b.short = true) (ring a d x D : Int) :
    Cs gl n_nacellelaw03_RotorInflows up [b.iv, f.iv, .agg [.int .i64 ring, .int .i64 a, .int .i64 d, .int .i64 x, .int .i64 D]] (.bool true) up := by
  obtain ⟨hl, hd, hn⟩ := short_le hs
  have hS := fun up => c_Short (gl := gl) up b
  rw [hs] at hS
  have hI := fun up => c_Inflow (gl := gl) up b f ring a d
  have hC := fun up => c_Class (gl := gl) up b f ring x
  have hB := fun up => c_Balance (gl := gl) up b f ring a d
  simp only [inflR_z, balR_z, classR_z] at hI hC hB
  have hA := fun up => c_awake (gl := gl) up hr hp
  have hb := fun up => c_blade (gl := gl) up b hl hd hn
  have hF := fun up (f : Nat → List IV) (x y : Int) (h0 : f 0 = [.int .i64 x]) (h1 : f 1 = [.int .i64 y]) => c_rf2 (gl := gl) up f x y h0 h1
  obtain ⟨R, hR⟩ : ∃ R, R = ringErr b f ring := ⟨_, rfl⟩
  obtain ⟨A, hA'⟩ : ∃ A, A = orE R (indErr a d) := ⟨_, rfl⟩
  obtain ⟨B, hB'⟩ : ∃ B, B = orE R (withinS x 0 999999999) := ⟨_, rfl⟩
  have k1 : A = 0 → 0 ≤ ring ∧ ring < b.nr ∧ b.ok f ring.toNat ∧ ∃ D : Nat, d = D ∧ D ≤ 12 ∧ 0 ≤ a ∧ a ≤ 2 ^ D := fun h => by
    rw [hA', hR, orE_zero] at h
    obtain ⟨g1, g2, g3, g4⟩ := ringErr_ok h.1
    obtain ⟨n, rfl, n2, n3, n4⟩ := indErr_ok h.2
    obtain ⟨_, _, _, ok⟩ := Bl.good g1 g2
    have hp := Int.pow_succ (2 : Int) n
    have hq := two_pos n
    exact ⟨g3, g4, ok _ (by omega), n + 1, rfl, by omega, n3, by omega⟩
  have k2 : B = 0 → 0 ≤ ring ∧ ring < b.nr ∧ b.ok f ring.toNat ∧ 0 ≤ x ∧ x ≤ 999999999 := fun h => by
    rw [hB', hR, orE_zero, withinS_zero] at h
    obtain ⟨g1, g2, g3, g4⟩ := ringErr_ok h.1
    obtain ⟨_, _, _, ok⟩ := Bl.good g1 g2
    exact ⟨g3, g4, ok _ (by omega), h.2⟩
  rw [← hR, ← hA'] at hI hB
  rw [← hR, ← hB'] at hC
  have hR2 := fun up => c_rCheckRing (gl := gl) up b f ring
  rw [← hR] at hR2
  have hf1 := fun up => c_rfl2 (gl := gl) up R (indErr a d)
  rw [← hA'] at hf1
  have hf2 := fun up => c_rfl2 (gl := gl) up R (withinS x 0 999999999)
  rw [← hB'] at hf2
  clear hR hA' hB'
  by_cases zA : A = 0
  · obtain ⟨r0, r1, ok, D', rfl, d1, a0, a1⟩ := k1 zA
    have hI2 := fun up => c_rInflow (gl := gl) up b f ring.toNat ok a D' d1 a0 a1
    have hB2 := fun up => c_rBalance (gl := gl) up b f ring.toNat ok a D' d1 a0 a1
    refine mk h_nacellelaw03_RotorInflows rfl rfl ?_
    conv => whnf
    repeat first
      | (show DRAW _ _ _ _ _; first | refine .mk 0 (by decide +kernel) ?_ | refine .mk 1 (by decide +kernel) ?_ | refine .mk 2 (by decide +kernel) ?_ | refine .mk 3 (by decide +kernel) ?_ | refine .mk 4 (by decide +kernel) ?_ | refine .mk 5 (by decide +kernel) ?_ | refine .mk 6 (by decide +kernel) ?_ | refine .mk 7 (by decide +kernel) ?_ | refine .mk 8 (by decide +kernel) ?_ | refine .mk 9 (by decide +kernel) ?_ | refine .mk 10 (by decide +kernel) ?_ | refine .mk 11 (by decide +kernel) ?_ | refine .mk 12 (by decide +kernel) ?_ | refine .mk 13 (by decide +kernel) ?_ | refine .mk 14 (by decide +kernel) ?_ | refine .mk 15 (by decide +kernel) ?_ | refine .mk 16 (by decide +kernel) ?_ | refine .mk 17 (by decide +kernel) ?_ | refine .mk 18 (by decide +kernel) ?_ | refine .mk 19 (by decide +kernel) ?_ | refine .mk 20 (by decide +kernel) ?_ | refine .mk 21 (by decide +kernel) ?_ | refine .mk 22 (by decide +kernel) ?_ | refine .mk 23 (by decide +kernel) ?_ | refine .mk 24 (by decide +kernel) ?_ | refine .mk 25 (by decide +kernel) ?_ | refine .mk 26 (by decide +kernel) ?_ | refine .mk 27 (by decide +kernel) ?_ | refine .mk 28 (by decide +kernel) ?_ | refine .mk 29 (by decide +kernel) ?_ | refine .mk 30 (by decide +kernel) ?_ | refine .mk 31 (by decide +kernel) ?_ | refine .mk 32 (by decide +kernel) ?_ | refine .mk 33 (by decide +kernel) ?_ | refine .mk 34 (by decide +kernel) ?_ | refine .mk 35 (by decide +kernel) ?_ | refine .mk 36 (by decide +kernel) ?_ | refine .mk 37 (by decide +kernel) ?_ | refine .mk 38 (by decide +kernel) ?_ | refine .mk 39 (by decide +kernel) ?_ | refine .mk 40 (by decide +kernel) ?_ | refine .mk 41 (by decide +kernel) ?_ | refine .mk 42 (by decide +kernel) ?_ | refine .mk 43 (by decide +kernel) ?_ | refine .mk 44 (by decide +kernel) ?_ | refine .mk 45 (by decide +kernel) ?_ | refine .mk 46 (by decide +kernel) ?_ | refine .mk 47 (by decide +kernel) ?_ | refine .mk 48 (by decide +kernel) ?_ | refine .mk 49 (by decide +kernel) ?_ | refine .mk 50 (by decide +kernel) ?_ | refine .mk 51 (by decide +kernel) ?_ | refine .mk 52 (by decide +kernel) ?_ | refine .mk 53 (by decide +kernel) ?_ | refine .mk 54 (by decide +kernel) ?_ | refine .mk 55 (by decide +kernel) ?_ | refine .mk 56 (by decide +kernel) ?_ | refine .mk 57 (by decide +kernel) ?_ | refine .mk 58 (by decide +kernel) ?_ | refine .mk 59 (by decide +kernel) ?_ | refine .mk 60 (by decide +kernel) ?_ | refine .mk 61 (by decide +kernel) ?_ | refine .mk 62 (by decide +kernel) ?_ | refine .mk 63 (by decide +kernel) ?_ | refine .mk 64 (by decide +kernel) ?_ | refine .mk 65 (by decide +kernel) ?_ | refine .mk 66 (by decide +kernel) ?_ | refine .mk 67 (by decide +kernel) ?_ | refine .mk 68 (by decide +kernel) ?_ | refine .mk 69 (by decide +kernel) ?_ | refine .mk 70 (by decide +kernel) ?_ | refine .mk 71 (by decide +kernel) ?_ | refine .mk 72 (by decide +kernel) ?_ | refine .mk 73 (by decide +kernel) ?_ | refine .mk 74 (by decide +kernel) ?_ | refine .mk 75 (by decide +kernel) ?_ | refine .mk 76 (by decide +kernel) ?_ | refine .mk 77 (by decide +kernel) ?_ | refine .mk 78 (by decide +kernel) ?_ | refine .mk 79 (by decide +kernel) ?_ | refine .mk 80 (by decide +kernel) ?_ | refine .mk 81 (by decide +kernel) ?_ | refine .mk 82 (by decide +kernel) ?_ | refine .mk 83 (by decide +kernel) ?_ | refine .mk 84 (by decide +kernel) ?_ | refine .mk 85 (by decide +kernel) ?_ | refine .mk 86 (by decide +kernel) ?_ | refine .mk 87 (by decide +kernel) ?_ | refine .mk 88 (by decide +kernel) ?_ | refine .mk 89 (by decide +kernel) ?_; conv => whnf)
      | (refine CALL0.cutBy lvInflows _ _ _ _ _ (leL_refl _) (hA ..) rfl ?_; conv => whnf)
      | (refine CALL0.mk _ _ _ _ _ (leL_refl _) (hA ..) rfl ?_; conv => whnf)
      | (refine CALLQ.mk _ _ _ (leL_refl _) (hA ..) rfl ?_; conv => whnf)
      | (refine CALL0.cutBy lvInflows _ _ _ _ _ (leL_refl _) (hS ..) rfl ?_; conv => whnf)
      | (refine CALL0.mk _ _ _ _ _ (leL_refl _) (hS ..) rfl ?_; conv => whnf)
      | (refine CALLQ.mk _ _ _ (leL_refl _) (hS ..) rfl ?_; conv => whnf)
      | (refine CALL0.cutBy lvInflows _ _ _ _ _ (leL_refl _) (hb ..) rfl ?_; conv => whnf)
      | (refine CALL0.mk _ _ _ _ _ (leL_refl _) (hb ..) rfl ?_; conv => whnf)
      | (refine CALLQ.mk _ _ _ (leL_refl _) (hb ..) rfl ?_; conv => whnf)
      | (refine CALL0.cutBy lvInflows _ _ _ _ _ (leL_refl _) (hI ..) rfl ?_; conv => whnf)
      | (refine CALL0.mk _ _ _ _ _ (leL_refl _) (hI ..) rfl ?_; conv => whnf)
      | (refine CALLQ.mk _ _ _ (leL_refl _) (hI ..) rfl ?_; conv => whnf)
      | (refine CALL0.cutBy lvInflows _ _ _ _ _ (leL_refl _) (hC ..) rfl ?_; conv => whnf)
      | (refine CALL0.mk _ _ _ _ _ (leL_refl _) (hC ..) rfl ?_; conv => whnf)
      | (refine CALLQ.mk _ _ _ (leL_refl _) (hC ..) rfl ?_; conv => whnf)
      | (refine CALL0.cutBy lvInflows _ _ _ _ _ (leL_refl _) (hB ..) rfl ?_; conv => whnf)
      | (refine CALL0.mk _ _ _ _ _ (leL_refl _) (hB ..) rfl ?_; conv => whnf)
      | (refine CALLQ.mk _ _ _ (leL_refl _) (hB ..) rfl ?_; conv => whnf)
      | (refine CALL0.cutBy lvInflows _ _ _ _ _ (leL_refl _) (hR2 ..) rfl ?_; conv => whnf)
      | (refine CALL0.mk _ _ _ _ _ (leL_refl _) (hR2 ..) rfl ?_; conv => whnf)
      | (refine CALLQ.mk _ _ _ (leL_refl _) (hR2 ..) rfl ?_; conv => whnf)
      | (refine CALL0.cutBy lvInflows _ _ _ _ _ (leL_refl _) (c_rCheckInduction ..) rfl ?_; conv => whnf)
      | (refine CALL0.mk _ _ _ _ _ (leL_refl _) (c_rCheckInduction ..) rfl ?_; conv => whnf)
      | (refine CALLQ.mk _ _ _ (leL_refl _) (c_rCheckInduction ..) rfl ?_; conv => whnf)
      | (refine CALL0.cutBy lvInflows _ _ _ _ _ (leL_refl _) (c_CheckRange ..) rfl ?_; conv => whnf)
      | (refine CALL0.mk _ _ _ _ _ (leL_refl _) (c_CheckRange ..) rfl ?_; conv => whnf)
      | (refine CALLQ.mk _ _ _ (leL_refl _) (c_CheckRange ..) rfl ?_; conv => whnf)
      | (refine CALL0.cutBy lvInflows _ _ _ _ _ (leL_refl _) (hf1 ..) rfl ?_; conv => whnf)
      | (refine CALL0.mk _ _ _ _ _ (leL_refl _) (hf1 ..) rfl ?_; conv => whnf)
      | (refine CALLQ.mk _ _ _ (leL_refl _) (hf1 ..) rfl ?_; conv => whnf)
      | (refine CALL0.cutBy lvInflows _ _ _ _ _ (leL_refl _) (hf2 ..) rfl ?_; conv => whnf)
      | (refine CALL0.mk _ _ _ _ _ (leL_refl _) (hf2 ..) rfl ?_; conv => whnf)
      | (refine CALLQ.mk _ _ _ (leL_refl _) (hf2 ..) rfl ?_; conv => whnf)
    split
    rotate_left
    · rename_i h
      exact absurd h (by simp [zA])
    conv => whnf
    first
      | refine .mk 0 (by decide +kernel) ?_
      | refine .mk 1 (by decide +kernel) ?_
      | refine .mk 2 (by decide +kernel) ?_
      | refine .mk 3 (by decide +kernel) ?_
      | refine .mk 4 (by decide +kernel) ?_
      | refine .mk 5 (by decide +kernel) ?_
      | refine .mk 6 (by decide +kernel) ?_
      | refine .mk 7 (by decide +kernel) ?_
      | refine .mk 8 (by decide +kernel) ?_
      | refine .mk 9 (by decide +kernel) ?_
      | refine .mk 10 (by decide +kernel) ?_
      | refine .mk 11 (by decide +kernel) ?_
      | refine .mk 12 (by decide +kernel) ?_
      | refine .mk 13 (by decide +kernel) ?_
      | refine .mk 14 (by decide +kernel) ?_
      | refine .mk 15 (by decide +kernel) ?_
      | refine .mk 16 (by decide +kernel) ?_
      | refine .mk 17 (by decide +kernel) ?_
      | refine .mk 18 (by decide +kernel) ?_
      | refine .mk 19 (by decide +kernel) ?_
      | refine .mk 20 (by decide +kernel) ?_
      | refine .mk 21 (by decide +kernel) ?_
      | refine .mk 22 (by decide +kernel) ?_
      | refine .mk 23 (by decide +kernel) ?_
      | refine .mk 24 (by decide +kernel) ?_
      | refine .mk 25 (by decide +kernel) ?_
      | refine .mk 26 (by decide +kernel) ?_
      | refine .mk 27 (by decide +kernel) ?_
      | refine .mk 28 (by decide +kernel) ?_
      | refine .mk 29 (by decide +kernel) ?_
      | refine .mk 30 (by decide +kernel) ?_
      | refine .mk 31 (by decide +kernel) ?_
      | refine .mk 32 (by decide +kernel) ?_
      | refine .mk 33 (by decide +kernel) ?_
      | refine .mk 34 (by decide +kernel) ?_
      | refine .mk 35 (by decide +kernel) ?_
      | refine .mk 36 (by decide +kernel) ?_
      | refine .mk 37 (by decide +kernel) ?_
      | refine .mk 38 (by decide +kernel) ?_
      | refine .mk 39 (by decide +kernel) ?_
      | refine .mk 40 (by decide +kernel) ?_
      | refine .mk 41 (by decide +kernel) ?_
      | refine .mk 42 (by decide +kernel) ?_
      | refine .mk 43 (by decide +kernel) ?_
      | refine .mk 44 (by decide +kernel) ?_
      | refine .mk 45 (by decide +kernel) ?_
      | refine .mk 46 (by decide +kernel) ?_
      | refine .mk 47 (by decide +kernel) ?_
      | refine .mk 48 (by decide +kernel) ?_
      | refine .mk 49 (by decide +kernel) ?_
      | refine .mk 50 (by decide +kernel) ?_
      | refine .mk 51 (by decide +kernel) ?_
      | refine .mk 52 (by decide +kernel) ?_
      | refine .mk 53 (by decide +kernel) ?_
      | refine .mk 54 (by decide +kernel) ?_
      | refine .mk 55 (by decide +kernel) ?_
      | refine .mk 56 (by decide +kernel) ?_
      | refine .mk 57 (by decide +kernel) ?_
      | refine .mk 58 (by decide +kernel) ?_
      | refine .mk 59 (by decide +kernel) ?_
      | refine .mk 60 (by decide +kernel) ?_
      | refine .mk 61 (by decide +kernel) ?_
      | refine .mk 62 (by decide +kernel) ?_
      | refine .mk 63 (by decide +kernel) ?_
      | refine .mk 64 (by decide +kernel) ?_
      | refine .mk 65 (by decide +kernel) ?_
      | refine .mk 66 (by decide +kernel) ?_
      | refine .mk 67 (by decide +kernel) ?_
      | refine .mk 68 (by decide +kernel) ?_
      | refine .mk 69 (by decide +kernel) ?_
      | refine .mk 70 (by decide +kernel) ?_
      | refine .mk 71 (by decide +kernel) ?_
      | refine .mk 72 (by decide +kernel) ?_
      | refine .mk 73 (by decide +kernel) ?_
      | refine .mk 74 (by decide +kernel) ?_
      | refine .mk 75 (by decide +kernel) ?_
      | refine .mk 76 (by decide +kernel) ?_
      | refine .mk 77 (by decide +kernel) ?_
      | refine .mk 78 (by decide +kernel) ?_
      | refine .mk 79 (by decide +kernel) ?_
      | refine .mk 80 (by decide +kernel) ?_
      | refine .mk 81 (by decide +kernel) ?_
      | refine .mk 82 (by decide +kernel) ?_
      | refine .mk 83 (by decide +kernel) ?_
      | refine .mk 84 (by decide +kernel) ?_
      | refine .mk 85 (by decide +kernel) ?_
      | refine .mk 86 (by decide +kernel) ?_
      | refine .mk 87 (by decide +kernel) ?_
      | refine .mk 88 (by decide +kernel) ?_
      | refine .mk 89 (by decide +kernel) ?_
    conv => whnf
    split
    rotate_left
    · rename_i h
      have h' : decide (0 ≤ ring) = false := h
      simp at h' <;> omega
    conv => whnf
    split
    rotate_left
    · rename_i h
      have h' : decide (ring < b.nr) = false := h
      simp at h' <;> omega
    conv => whnf
    first | refine CALLQ.mk _ _ _ (leL_refl _) (hI2 _) rfl ?_ | refine CALL0.cutBy lvInflows _ _ _ _ _ (leL_refl _) (hI2 _) rfl ?_ | refine CALL0.mk _ _ _ _ _ (leL_refl _) (hI2 _) rfl ?_
    conv => whnf
    split
    rotate_left
    · rename_i h
      have h' : decide (0 ≤ ring) = false := h
      simp at h' <;> omega
    conv => whnf
    split
    rotate_left
    · rename_i h
      have h' : decide (ring < b.nr) = false := h
      simp at h' <;> omega
    conv => whnf
    first | refine CALLQ.mk _ _ _ (leL_refl _) (hB2 _) rfl ?_ | refine CALL0.cutBy lvInflows _ _ _ _ _ (leL_refl _) (hB2 _) rfl ?_ | refine CALL0.mk _ _ _ _ _ (leL_refl _) (hB2 _) rfl ?_
    conv => whnf
    by_cases zB : B = 0
    · obtain ⟨_, _, _, b0, b1⟩ := k2 zB
      have hC2 := fun up => c_rClass (gl := gl) up b f ring.toNat ok x (by omega) b1
      split
      rotate_left
      · rename_i h
        exact absurd h (by simp [zB])
      conv => whnf
      first
        | refine .mk 0 (by decide +kernel) ?_
        | refine .mk 1 (by decide +kernel) ?_
        | refine .mk 2 (by decide +kernel) ?_
        | refine .mk 3 (by decide +kernel) ?_
        | refine .mk 4 (by decide +kernel) ?_
        | refine .mk 5 (by decide +kernel) ?_
        | refine .mk 6 (by decide +kernel) ?_
        | refine .mk 7 (by decide +kernel) ?_
        | refine .mk 8 (by decide +kernel) ?_
        | refine .mk 9 (by decide +kernel) ?_
        | refine .mk 10 (by decide +kernel) ?_
        | refine .mk 11 (by decide +kernel) ?_
        | refine .mk 12 (by decide +kernel) ?_
        | refine .mk 13 (by decide +kernel) ?_
        | refine .mk 14 (by decide +kernel) ?_
        | refine .mk 15 (by decide +kernel) ?_
        | refine .mk 16 (by decide +kernel) ?_
        | refine .mk 17 (by decide +kernel) ?_
        | refine .mk 18 (by decide +kernel) ?_
        | refine .mk 19 (by decide +kernel) ?_
        | refine .mk 20 (by decide +kernel) ?_
        | refine .mk 21 (by decide +kernel) ?_
        | refine .mk 22 (by decide +kernel) ?_
        | refine .mk 23 (by decide +kernel) ?_
        | refine .mk 24 (by decide +kernel) ?_
        | refine .mk 25 (by decide +kernel) ?_
        | refine .mk 26 (by decide +kernel) ?_
        | refine .mk 27 (by decide +kernel) ?_
        | refine .mk 28 (by decide +kernel) ?_
        | refine .mk 29 (by decide +kernel) ?_
        | refine .mk 30 (by decide +kernel) ?_
        | refine .mk 31 (by decide +kernel) ?_
        | refine .mk 32 (by decide +kernel) ?_
        | refine .mk 33 (by decide +kernel) ?_
        | refine .mk 34 (by decide +kernel) ?_
        | refine .mk 35 (by decide +kernel) ?_
        | refine .mk 36 (by decide +kernel) ?_
        | refine .mk 37 (by decide +kernel) ?_
        | refine .mk 38 (by decide +kernel) ?_
        | refine .mk 39 (by decide +kernel) ?_
        | refine .mk 40 (by decide +kernel) ?_
        | refine .mk 41 (by decide +kernel) ?_
        | refine .mk 42 (by decide +kernel) ?_
        | refine .mk 43 (by decide +kernel) ?_
        | refine .mk 44 (by decide +kernel) ?_
        | refine .mk 45 (by decide +kernel) ?_
        | refine .mk 46 (by decide +kernel) ?_
        | refine .mk 47 (by decide +kernel) ?_
        | refine .mk 48 (by decide +kernel) ?_
        | refine .mk 49 (by decide +kernel) ?_
        | refine .mk 50 (by decide +kernel) ?_
        | refine .mk 51 (by decide +kernel) ?_
        | refine .mk 52 (by decide +kernel) ?_
        | refine .mk 53 (by decide +kernel) ?_
        | refine .mk 54 (by decide +kernel) ?_
        | refine .mk 55 (by decide +kernel) ?_
        | refine .mk 56 (by decide +kernel) ?_
        | refine .mk 57 (by decide +kernel) ?_
        | refine .mk 58 (by decide +kernel) ?_
        | refine .mk 59 (by decide +kernel) ?_
        | refine .mk 60 (by decide +kernel) ?_
        | refine .mk 61 (by decide +kernel) ?_
        | refine .mk 62 (by decide +kernel) ?_
        | refine .mk 63 (by decide +kernel) ?_
        | refine .mk 64 (by decide +kernel) ?_
        | refine .mk 65 (by decide +kernel) ?_
        | refine .mk 66 (by decide +kernel) ?_
        | refine .mk 67 (by decide +kernel) ?_
        | refine .mk 68 (by decide +kernel) ?_
        | refine .mk 69 (by decide +kernel) ?_
        | refine .mk 70 (by decide +kernel) ?_
        | refine .mk 71 (by decide +kernel) ?_
        | refine .mk 72 (by decide +kernel) ?_
        | refine .mk 73 (by decide +kernel) ?_
        | refine .mk 74 (by decide +kernel) ?_
        | refine .mk 75 (by decide +kernel) ?_
        | refine .mk 76 (by decide +kernel) ?_
        | refine .mk 77 (by decide +kernel) ?_
        | refine .mk 78 (by decide +kernel) ?_
        | refine .mk 79 (by decide +kernel) ?_
        | refine .mk 80 (by decide +kernel) ?_
        | refine .mk 81 (by decide +kernel) ?_
        | refine .mk 82 (by decide +kernel) ?_
        | refine .mk 83 (by decide +kernel) ?_
        | refine .mk 84 (by decide +kernel) ?_
        | refine .mk 85 (by decide +kernel) ?_
        | refine .mk 86 (by decide +kernel) ?_
        | refine .mk 87 (by decide +kernel) ?_
        | refine .mk 88 (by decide +kernel) ?_
        | refine .mk 89 (by decide +kernel) ?_
      conv => whnf
      split
      rotate_left
      · rename_i h
        have h' : decide (0 ≤ ring) = false := h
        simp at h' <;> omega
      conv => whnf
      split
      rotate_left
      · rename_i h
        have h' : decide (ring < b.nr) = false := h
        simp at h' <;> omega
      conv => whnf
      first | refine CALLQ.mk _ _ _ (leL_refl _) (hC2 _) rfl ?_ | refine CALL0.cutBy lvInflows _ _ _ _ _ (leL_refl _) (hC2 _) rfl ?_ | refine CALL0.mk _ _ _ _ _ (leL_refl _) (hC2 _) rfl ?_
      conv => whnf
      refine CALL0.cutBy lvInflows _ _ _ _ _ (leL_refl _) (c_number _ _ _ _ _ rfl (fun h => zE_ne h) (fun h => by first | exact absurd h zA | (rw [h]; rfl))) rfl ?_
      conv => whnf
      refine CALL0.cutBy lvInflows _ _ _ _ _ (leL_refl _) (c_number _ _ _ _ _ rfl (fun h => zE_ne h) (fun h => by first | exact absurd h zB | (rw [h]; rfl))) rfl ?_
      conv => whnf
      refine CALL0.cutBy lvInflows _ _ _ _ _ (leL_refl _) (c_number _ _ _ _ _ rfl (fun h => zE_ne h) (fun h => by first | exact absurd h zA | (rw [h]; rfl))) rfl ?_
      conv => whnf
      exact ⟨rfl, rfl⟩
    · split
      · rename_i h
        exact absurd h (by simp [zB])
      rename_i hN
      clear hN
      conv => whnf
      refine CALL0.cutBy lvInflows _ _ _ _ _ (leL_refl _) (c_number _ _ _ _ _ rfl (fun h => zE_ne h) (fun h => by first | exact absurd h zA | (rw [h]; rfl))) rfl ?_
      conv => whnf
      refine CALL0.cutBy lvInflows _ _ _ _ _ (leL_refl _) (c_number _ _ _ _ _ rfl (fun h => zE_ne h) (fun h => by first | exact absurd h zB | (rw [h]; rfl))) rfl ?_
      conv => whnf
      refine CALL0.cutBy lvInflows _ _ _ _ _ (leL_refl _) (c_number _ _ _ _ _ rfl (fun h => zE_ne h) (fun h => by first | exact absurd h zA | (rw [h]; rfl))) rfl ?_
      conv => whnf
      exact ⟨rfl, rfl⟩
  · refine mk h_nacellelaw03_RotorInflows rfl rfl ?_
    conv => whnf
    repeat first
      | (show DRAW _ _ _ _ _; first | refine .mk 0 (by decide +kernel) ?_ | refine .mk 1 (by decide +kernel) ?_ | refine .mk 2 (by decide +kernel) ?_ | refine .mk 3 (by decide +kernel) ?_ | refine .mk 4 (by decide +kernel) ?_ | refine .mk 5 (by decide +kernel) ?_ | refine .mk 6 (by decide +kernel) ?_ | refine .mk 7 (by decide +kernel) ?_ | refine .mk 8 (by decide +kernel) ?_ | refine .mk 9 (by decide +kernel) ?_ | refine .mk 10 (by decide +kernel) ?_ | refine .mk 11 (by decide +kernel) ?_ | refine .mk 12 (by decide +kernel) ?_ | refine .mk 13 (by decide +kernel) ?_ | refine .mk 14 (by decide +kernel) ?_ | refine .mk 15 (by decide +kernel) ?_ | refine .mk 16 (by decide +kernel) ?_ | refine .mk 17 (by decide +kernel) ?_ | refine .mk 18 (by decide +kernel) ?_ | refine .mk 19 (by decide +kernel) ?_ | refine .mk 20 (by decide +kernel) ?_ | refine .mk 21 (by decide +kernel) ?_ | refine .mk 22 (by decide +kernel) ?_ | refine .mk 23 (by decide +kernel) ?_ | refine .mk 24 (by decide +kernel) ?_ | refine .mk 25 (by decide +kernel) ?_ | refine .mk 26 (by decide +kernel) ?_ | refine .mk 27 (by decide +kernel) ?_ | refine .mk 28 (by decide +kernel) ?_ | refine .mk 29 (by decide +kernel) ?_ | refine .mk 30 (by decide +kernel) ?_ | refine .mk 31 (by decide +kernel) ?_ | refine .mk 32 (by decide +kernel) ?_ | refine .mk 33 (by decide +kernel) ?_ | refine .mk 34 (by decide +kernel) ?_ | refine .mk 35 (by decide +kernel) ?_ | refine .mk 36 (by decide +kernel) ?_ | refine .mk 37 (by decide +kernel) ?_ | refine .mk 38 (by decide +kernel) ?_ | refine .mk 39 (by decide +kernel) ?_ | refine .mk 40 (by decide +kernel) ?_ | refine .mk 41 (by decide +kernel) ?_ | refine .mk 42 (by decide +kernel) ?_ | refine .mk 43 (by decide +kernel) ?_ | refine .mk 44 (by decide +kernel) ?_ | refine .mk 45 (by decide +kernel) ?_ | refine .mk 46 (by decide +kernel) ?_ | refine .mk 47 (by decide +kernel) ?_ | refine .mk 48 (by decide +kernel) ?_ | refine .mk 49 (by decide +kernel) ?_ | refine .mk 50 (by decide +kernel) ?_ | refine .mk 51 (by decide +kernel) ?_ | refine .mk 52 (by decide +kernel) ?_ | refine .mk 53 (by decide +kernel) ?_ | refine .mk 54 (by decide +kernel) ?_ | refine .mk 55 (by decide +kernel) ?_ | refine .mk 56 (by decide +kernel) ?_ | refine .mk 57 (by decide +kernel) ?_ | refine .mk 58 (by decide +kernel) ?_ | refine .mk 59 (by decide +kernel) ?_ | refine .mk 60 (by decide +kernel) ?_ | refine .mk 61 (by decide +kernel) ?_ | refine .mk 62 (by decide +kernel) ?_ | refine .mk 63 (by decide +kernel) ?_ | refine .mk 64 (by decide +kernel) ?_ | refine .mk 65 (by decide +kernel) ?_ | refine .mk 66 (by decide +kernel) ?_ | refine .mk 67 (by decide +kernel) ?_ | refine .mk 68 (by decide +kernel) ?_ | refine .mk 69 (by decide +kernel) ?_ | refine .mk 70 (by decide +kernel) ?_ | refine .mk 71 (by decide +kernel) ?_ | refine .mk 72 (by decide +kernel) ?_ | refine .mk 73 (by decide +kernel) ?_ | refine .mk 74 (by decide +kernel) ?_ | refine .mk 75 (by decide +kernel) ?_ | refine .mk 76 (by decide +kernel) ?_ | refine .mk 77 (by decide +kernel) ?_ | refine .mk 78 (by decide +kernel) ?_ | refine .mk 79 (by decide +kernel) ?_ | refine .mk 80 (by decide +kernel) ?_ | refine .mk 81 (by decide +kernel) ?_ | refine .mk 82 (by decide +kernel) ?_ | refine .mk 83 (by decide +kernel) ?_ | refine .mk 84 (by decide +kernel) ?_ | refine .mk 85 (by decide +kernel) ?_ | refine .mk 86 (by decide +kernel) ?_ | refine .mk 87 (by decide +kernel) ?_ | refine .mk 88 (by decide +kernel) ?_ | refine .mk 89 (by decide +kernel) ?_; conv => whnf)
      | (refine CALL0.cutBy lvInflows _ _ _ _ _ (leL_refl _) (hA ..) rfl ?_; conv => whnf)
      | (refine CALL0.mk _ _ _ _ _ (leL_refl _) (hA ..) rfl ?_; conv => whnf)
      | (refine CALLQ.mk _ _ _ (leL_refl _) (hA ..) rfl ?_; conv => whnf)
      | (refine CALL0.cutBy lvInflows _ _ _ _ _ (leL_refl _) (hS ..) rfl ?_; conv => whnf)
      | (refine CALL0.mk _ _ _ _ _ (leL_refl _) (hS ..) rfl ?_; conv => whnf)
      | (refine CALLQ.mk _ _ _ (leL_refl _) (hS ..) rfl ?_; conv => whnf)
      | (refine CALL0.cutBy lvInflows _ _ _ _ _ (leL_refl _) (hb ..) rfl ?_; conv => whnf)
      | (refine CALL0.mk _ _ _ _ _ (leL_refl _) (hb ..) rfl ?_; conv => whnf)
      | (refine CALLQ.mk _ _ _ (leL_refl _) (hb ..) rfl ?_; conv => whnf)
      | (refine CALL0.cutBy lvInflows _ _ _ _ _ (leL_refl _) (hI ..) rfl ?_; conv => whnf)
      | (refine CALL0.mk _ _ _ _ _ (leL_refl _) (hI ..) rfl ?_; conv => whnf)
      | (refine CALLQ.mk _ _ _ (leL_refl _) (hI ..) rfl ?_; conv => whnf)
      | (refine CALL0.cutBy lvInflows _ _ _ _ _ (leL_refl _) (hC ..) rfl ?_; conv => whnf)
      | (refine CALL0.mk _ _ _ _ _ (leL_refl _) (hC ..) rfl ?_; conv => whnf)
      | (refine CALLQ.mk _ _ _ (leL_refl _) (hC ..) rfl ?_; conv => whnf)
      | (refine CALL0.cutBy lvInflows _ _ _ _ _ (leL_refl _) (hB ..) rfl ?_; conv => whnf)
      | (refine CALL0.mk _ _ _ _ _ (leL_refl _) (hB ..) rfl ?_; conv => whnf)
      | (refine CALLQ.mk _ _ _ (leL_refl _) (hB ..) rfl ?_; conv => whnf)
      | (refine CALL0.cutBy lvInflows _ _ _ _ _ (leL_refl _) (hR2 ..) rfl ?_; conv => whnf)
      | (refine CALL0.mk _ _ _ _ _ (leL_refl _) (hR2 ..) rfl ?_; conv => whnf)
      | (refine CALLQ.mk _ _ _ (leL_refl _) (hR2 ..) rfl ?_; conv => whnf)
      | (refine CALL0.cutBy lvInflows _ _ _ _ _ (leL_refl _) (c_rCheckInduction ..) rfl ?_; conv => whnf)
      | (refine CALL0.mk _ _ _ _ _ (leL_refl _) (c_rCheckInduction ..) rfl ?_; conv => whnf)
      | (refine CALLQ.mk _ _ _ (leL_refl _) (c_rCheckInduction ..) rfl ?_; conv => whnf)
      | (refine CALL0.cutBy lvInflows _ _ _ _ _ (leL_refl _) (c_CheckRange ..) rfl ?_; conv => whnf)
      | (refine CALL0.mk _ _ _ _ _ (leL_refl _) (c_CheckRange ..) rfl ?_; conv => whnf)
      | (refine CALLQ.mk _ _ _ (leL_refl _) (c_CheckRange ..) rfl ?_; conv => whnf)
      | (refine CALL0.cutBy lvInflows _ _ _ _ _ (leL_refl _) (hf1 ..) rfl ?_; conv => whnf)
      | (refine CALL0.mk _ _ _ _ _ (leL_refl _) (hf1 ..) rfl ?_; conv => whnf)
      | (refine CALLQ.mk _ _ _ (leL_refl _) (hf1 ..) rfl ?_; conv => whnf)
      | (refine CALL0.cutBy lvInflows _ _ _ _ _ (leL_refl _) (hf2 ..) rfl ?_; conv => whnf)
      | (refine CALL0.mk _ _ _ _ _ (leL_refl _) (hf2 ..) rfl ?_; conv => whnf)
      | (refine CALLQ.mk _ _ _ (leL_refl _) (hf2 ..) rfl ?_; conv => whnf)
    split
    · rename_i h
      exact absurd h (by simp [zA])
    rename_i hN
    clear hN
    conv => whnf
    by_cases zB : B = 0
    · obtain ⟨r0, r1, ok, b0, b1⟩ := k2 zB
      have hC2 := fun up => c_rClass (gl := gl) up b f ring.toNat ok x (by omega) b1
      split
      rotate_left
      · rename_i h
        exact absurd h (by simp [zB])
      conv => whnf
      first
        | refine .mk 0 (by decide +kernel) ?_
        | refine .mk 1 (by decide +kernel) ?_
        | refine .mk 2 (by decide +kernel) ?_
        | refine .mk 3 (by decide +kernel) ?_
        | refine .mk 4 (by decide +kernel) ?_
        | refine .mk 5 (by decide +kernel) ?_
        | refine .mk 6 (by decide +kernel) ?_
        | refine .mk 7 (by decide +kernel) ?_
        | refine .mk 8 (by decide +kernel) ?_
        | refine .mk 9 (by decide +kernel) ?_
        | refine .mk 10 (by decide +kernel) ?_
        | refine .mk 11 (by decide +kernel) ?_
        | refine .mk 12 (by decide +kernel) ?_
        | refine .mk 13 (by decide +kernel) ?_
        | refine .mk 14 (by decide +kernel) ?_
        | refine .mk 15 (by decide +kernel) ?_
        | refine .mk 16 (by decide +kernel) ?_
        | refine .mk 17 (by decide +kernel) ?_
        | refine .mk 18 (by decide +kernel) ?_
        | refine .mk 19 (by decide +kernel) ?_
        | refine .mk 20 (by decide +kernel) ?_
        | refine .mk 21 (by decide +kernel) ?_
        | refine .mk 22 (by decide +kernel) ?_
        | refine .mk 23 (by decide +kernel) ?_
        | refine .mk 24 (by decide +kernel) ?_
        | refine .mk 25 (by decide +kernel) ?_
        | refine .mk 26 (by decide +kernel) ?_
        | refine .mk 27 (by decide +kernel) ?_
        | refine .mk 28 (by decide +kernel) ?_
        | refine .mk 29 (by decide +kernel) ?_
        | refine .mk 30 (by decide +kernel) ?_
        | refine .mk 31 (by decide +kernel) ?_
        | refine .mk 32 (by decide +kernel) ?_
        | refine .mk 33 (by decide +kernel) ?_
        | refine .mk 34 (by decide +kernel) ?_
        | refine .mk 35 (by decide +kernel) ?_
        | refine .mk 36 (by decide +kernel) ?_
        | refine .mk 37 (by decide +kernel) ?_
        | refine .mk 38 (by decide +kernel) ?_
        | refine .mk 39 (by decide +kernel) ?_
        | refine .mk 40 (by decide +kernel) ?_
        | refine .mk 41 (by decide +kernel) ?_
        | refine .mk 42 (by decide +kernel) ?_
        | refine .mk 43 (by decide +kernel) ?_
        | refine .mk 44 (by decide +kernel) ?_
        | refine .mk 45 (by decide +kernel) ?_
        | refine .mk 46 (by decide +kernel) ?_
        | refine .mk 47 (by decide +kernel) ?_
        | refine .mk 48 (by decide +kernel) ?_
        | refine .mk 49 (by decide +kernel) ?_
        | refine .mk 50 (by decide +kernel) ?_
        | refine .mk 51 (by decide +kernel) ?_
        | refine .mk 52 (by decide +kernel) ?_
        | refine .mk 53 (by decide +kernel) ?_
        | refine .mk 54 (by decide +kernel) ?_
        | refine .mk 55 (by decide +kernel) ?_
        | refine .mk 56 (by decide +kernel) ?_
        | refine .mk 57 (by decide +kernel) ?_
        | refine .mk 58 (by decide +kernel) ?_
        | refine .mk 59 (by decide +kernel) ?_
        | refine .mk 60 (by decide +kernel) ?_
        | refine .mk 61 (by decide +kernel) ?_
        | refine .mk 62 (by decide +kernel) ?_
        | refine .mk 63 (by decide +kernel) ?_
        | refine .mk 64 (by decide +kernel) ?_
        | refine .mk 65 (by decide +kernel) ?_
        | refine .mk 66 (by decide +kernel) ?_
        | refine .mk 67 (by decide +kernel) ?_
        | refine .mk 68 (by decide +kernel) ?_
        | refine .mk 69 (by decide +kernel) ?_
        | refine .mk 70 (by decide +kernel) ?_
        | refine .mk 71 (by decide +kernel) ?_
        | refine .mk 72 (by decide +kernel) ?_
        | refine .mk 73 (by decide +kernel) ?_
        | refine .mk 74 (by decide +kernel) ?_
        | refine .mk 75 (by decide +kernel) ?_
        | refine .mk 76 (by decide +kernel) ?_
        | refine .mk 77 (by decide +kernel) ?_
        | refine .mk 78 (by decide +kernel) ?_
        | refine .mk 79 (by decide +kernel) ?_
        | refine .mk 80 (by decide +kernel) ?_
        | refine .mk 81 (by decide +kernel) ?_
        | refine .mk 82 (by decide +kernel) ?_
        | refine .mk 83 (by decide +kernel) ?_
        | refine .mk 84 (by decide +kernel) ?_
        | refine .mk 85 (by decide +kernel) ?_
        | refine .mk 86 (by decide +kernel) ?_
        | refine .mk 87 (by decide +kernel) ?_
        | refine .mk 88 (by decide +kernel) ?_
        | refine .mk 89 (by decide +kernel) ?_
      conv => whnf
      split
      rotate_left
      · rename_i h
        have h' : decide (0 ≤ ring) = false := h
        simp at h' <;> omega
      conv => whnf
      split
      rotate_left
      · rename_i h
        have h' : decide (ring < b.nr) = false := h
        simp at h' <;> omega
      conv => whnf
      first | refine CALLQ.mk _ _ _ (leL_refl _) (hC2 _) rfl ?_ | refine CALL0.cutBy lvInflows _ _ _ _ _ (leL_refl _) (hC2 _) rfl ?_ | refine CALL0.mk _ _ _ _ _ (leL_refl _) (hC2 _) rfl ?_
      conv => whnf
      refine CALL0.cutBy lvInflows _ _ _ _ _ (leL_refl _) (c_number _ _ _ _ _ rfl (fun h => zE_ne h) (fun h => by first | exact absurd h zA | (rw [h]; rfl))) rfl ?_
      conv => whnf
      refine CALL0.cutBy lvInflows _ _ _ _ _ (leL_refl _) (c_number _ _ _ _ _ rfl (fun h => zE_ne h) (fun h => by first | exact absurd h zB | (rw [h]; rfl))) rfl ?_
      conv => whnf
      refine CALL0.cutBy lvInflows _ _ _ _ _ (leL_refl _) (c_number _ _ _ _ _ rfl (fun h => zE_ne h) (fun h => by first | exact absurd h zA | (rw [h]; rfl))) rfl ?_
      conv => whnf
      exact ⟨rfl, rfl⟩
    · split
      · rename_i h
        exact absurd h (by simp [zB])
      rename_i hN
      clear hN
      conv => whnf
      refine CALL0.cutBy lvInflows _ _ _ _ _ (leL_refl _) (c_number _ _ _ _ _ rfl (fun h => zE_ne h) (fun h => by first | exact absurd h zA | (rw [h]; rfl))) rfl ?_
      conv => whnf
      refine CALL0.cutBy lvInflows _ _ _ _ _ (leL_refl _) (c_number _ _ _ _ _ rfl (fun h => zE_ne h) (fun h => by first | exact absurd h zB | (rw [h]; rfl))) rfl ?_
      conv => whnf
      refine CALL0.cutBy lvInflows _ _ _ _ _ (leL_refl _) (c_number _ _ _ _ _ rfl (fun h => zE_ne h) (fun h => by first | exact absurd h zA | (rw [h]; rfl))) rfl ?_
      conv => whnf
      exact ⟨rfl, rfl⟩

theorem c_RotorInflows (up : List Ces) (hr : gl g_rotor_roots = rootsI) (hp : gl g_internal_strconv_uint64pow10 = powI) (b : Bl) (f : Fl) (ring a d x D : Int) :
    Cs gl n_nacellelaw03_RotorInflows up [b.iv, f.iv, .agg [.int .i64 ring, .int .i64 a, .int .i64 d, .int .i64 x, .int .i64 D]] (.bool true) up := by
  cases hs : b.short with
  | true => exact inflows_yes up hr hp b f hs ring a d x D
  | false => exact inflows_no up hr hp b f hs ring a d x D
end Go.Proofs.YtllmejkmogepjaaDoor.Ix

/-
  IxSh2: pairs, loads, whole numbers that fit their shapes.
-/
namespace Go.Proofs.YtllmejkmogepjaaDoor.Ix

abbrev pairShp : Shp := .agg [(1, intS), (1, intS)]
abbrev tripShp : Shp := .agg [(1, intS), (1, intS), (1, intS)]

theorem fit_int {v : IV} (h : FitV intS v) : ∃ n, v = .int .i64 n := by
  obtain ⟨m, h, _⟩ := h
  exact ⟨m, (List.cons.inj h).1⟩

theorem fit_pair {v : IV} (h : FitV pairShp v) : ∃ a b, v = .agg [.int .i64 a, .int .i64 b] := by
  obtain ⟨xs, rfl, h⟩ := h
  have := fit_ints 2 xs h
  exact ⟨intAt xs 0, intAt xs 1, by rw [this]; simp [intAt, List.range, List.range.loop]⟩

theorem fit_trip {v : IV} (h : FitV tripShp v) : ∃ a b c, v = .agg [.int .i64 a, .int .i64 b, .int .i64 c] := by
  obtain ⟨xs, rfl, h⟩ := h
  have := fit_ints 3 xs h
  exact ⟨intAt xs 0, intAt xs 1, intAt xs 2, by rw [this]; simp [intAt, List.range, List.range.loop]⟩

theorem cells2 {ys : List IV} (h : Fit pairShp ys) : ∃ a b, ys = [.int .i64 a, .int .i64 b] := by
  have := fit_ints 2 ys h
  exact ⟨intAt ys 0, intAt ys 1, by rw [this]; simp [intAt, List.range, List.range.loop]⟩
theorem cells3 {ys : List IV} (h : Fit tripShp ys) : ∃ a b c, ys = [.int .i64 a, .int .i64 b, .int .i64 c] := by
  have := fit_ints 3 ys h
  exact ⟨intAt ys 0, intAt ys 1, intAt ys 2, by rw [this]; simp [intAt, List.range, List.range.loop]⟩
theorem cells1 {ys : List IV} (h : Fit intS ys) : ∃ a, ys = [.int .i64 a] := by
  obtain ⟨m, rfl, _⟩ := h
  exact ⟨m, rfl⟩

theorem fit_loads {v : IV} (h : FitV (.agg [(3, .agg [(1, intS), (1, intS), (1, intS)]), (1, intS), (2, .agg [(1, intS), (1, intS)])]) v) :
    ∃ p q r s t u, v = .agg [.int .i64 p, .int .i64 q, .int .i64 r, .int .i64 s, .int .i64 t, .int .i64 u] := by
  obtain ⟨xs, rfl, h⟩ := h
  simp only [FitL] at h
  obtain ⟨y1, z1, rfl, _, h1, y2, z2, rfl, _, h2, y3, z3, rfl, _, h3, rfl⟩ := h
  obtain ⟨p, q, r, rfl⟩ := cells3 h1
  obtain ⟨s, rfl⟩ := cells1 h2
  obtain ⟨t, u, rfl⟩ := cells2 h3
  exact ⟨p, q, r, s, t, u, rfl⟩

theorem fit_spot {v : IV} (h : FitV (.agg [(1, intS), (2, .agg [(1, intS), (1, intS)]), (1, intS), (1, intS)]) v) :
    ∃ p q r s t, v = .agg [.int .i64 p, .int .i64 q, .int .i64 r, .int .i64 s, .int .i64 t] := by
  obtain ⟨xs, rfl, h⟩ := h
  simp only [FitL] at h
  obtain ⟨y1, z1, rfl, _, h1, y2, z2, rfl, _, h2, y3, z3, rfl, _, h3, y4, z4, rfl, _, h4, rfl⟩ := h
  obtain ⟨p, rfl⟩ := cells1 h1
  obtain ⟨q, r, rfl⟩ := cells2 h2
  obtain ⟨s, rfl⟩ := cells1 h3
  obtain ⟨t, rfl⟩ := cells1 h4
  exact ⟨p, q, r, s, t, rfl⟩

theorem fit_quad {v : IV} (h : FitV (.agg [(1, intS), (1, intS), (1, intS), (1, intS)]) v) : ∃ p q r s, v = .agg [.int .i64 p, .int .i64 q, .int .i64 r, .int .i64 s] := by
  obtain ⟨xs, rfl, h⟩ := h
  have := fit_ints 4 xs h
  exact ⟨intAt xs 0, intAt xs 1, intAt xs 2, intAt xs 3, by rw [this]; simp [intAt, List.range, List.range.loop]⟩

theorem fit_slice3 {v : IV} (h : FitV (.slice 3 tripShp) v) : ∃ (n : Nat) (x y z : Nat → Int), n ≤ maxLen ∧ leV v (.lst none 3 n fun i => [.int .i64 (x i), .int .i64 (y i), .int .i64 (z i)]) := by
  obtain ⟨n, f, h, hn, hf⟩ := h
  obtain rfl := (List.cons.inj h).1
  refine ⟨n, fun i => intAt (f i) 0, fun i => intAt (f i) 1, fun i => intAt (f i) 2, hn, .inl rfl, rfl, rfl, fun i hi => ?_⟩
  obtain ⟨_, hf⟩ := hf i hi
  exact fit_ints 3 (f i) hf
end Go.Proofs.YtllmejkmogepjaaDoor.Ix
