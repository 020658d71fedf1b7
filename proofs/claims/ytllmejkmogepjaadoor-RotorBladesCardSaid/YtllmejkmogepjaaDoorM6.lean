/-
  Li1: RotorInflows: the law.
-/
import Derived.Test.YtllmejkmogepjaaDoorM5
namespace Go.Proofs.YtllmejkmogepjaaDoor.Ix
open Go.Proofs
set_option maxRecDepth 100000
set_option linter.unusedVariables false
set_option linter.unusedSimpArgs false
variable {gl : Nat → IV}

theorem short_le {b : Bl} (h : b.short = true) : b.nl ≤ 1000000 ∧ b.nd ≤ 1000000 ∧ b.nr ≤ 1000000 := by
  unfold Bl.short at h
  simp at h
  omega

theorem inflR_z (b : Bl) (f : Fl) (ring a d : Int) : inflR b f ring a d = .tup [.int .i64 (zE (orE (ringErr b f ring) (indErr a d)) (b.infl f ring.toNat a d.toNat)), .int .i64 (orE (ringErr b f ring) (indErr a d))] := rfl
theorem balR_z (b : Bl) (f : Fl) (ring a d : Int) : balR b f ring a d = .tup [.int .i64 (zE (orE (ringErr b f ring) (indErr a d)) (b.bal f ring.toNat a d.toNat)), .int .i64 (orE (ringErr b f ring) (indErr a d))] := rfl
theorem classR_z (b : Bl) (f : Fl) (ring x : Int) : classR b f ring x = .tup [.int .i64 (zE (orE (ringErr b f ring) (withinS x 0 999999999)) (clsP b.nl (b.r3 ring.toNat) f.p x)), .int .i64 (orE (ringErr b f ring) (withinS x 0 999999999))] := rfl

theorem inflows_no (up : List Ces) (hr : gl g_rotor_roots = rootsI) (hp : gl g_internal_strconv_uint64pow10 = powI) (b : Bl) (f : Fl) (hs : b.short = false) (ring a d x D : Int) :
    Cs gl n_nacellelaw03_RotorInflows up [b.iv, f.iv, .agg [.int .i64 ring, .int .i64 a, .int .i64 d, .int .i64 x, .int .i64 D]] (.bool true) up := by
  refine mk h_nacellelaw03_RotorInflows rfl rfl ?_
  have hS := fun up => c_Short (gl := gl) up b
  rw [hs] at hS
  conv => whnf
  refine .mk _ _ _ _ _ (leL_refl _) (c_awake _ hr hp) rfl ?_
  conv => whnf
  refine .mk _ _ _ _ _ (leL_refl _) (hS _) rfl ?_
  conv => whnf
  refine .mk _ _ _ _ _ (leL_refl _) (c_awake _ hr hp) rfl ?_
  conv => whnf
  exact ⟨rfl, rfl⟩

/-- What is read behind each call. -/
def lvInflows : List (Nat × List Nat) := [(19, [3, 4, 5, 6, 7, 8, 9, 10, 11, 19]), (23, [3, 4, 5, 6, 7, 8, 9, 10, 11, 21, 23]), (26, [3, 4, 5, 6, 7, 8, 9, 10, 11, 26]), (29, [3, 4, 5, 6, 7, 8, 9, 10, 11, 29]), (35, [3, 4, 5, 6, 7, 8, 9, 10, 11, 35]), (40, [3, 4, 5, 6, 7, 8, 9, 10, 11, 40]), (46, [3, 4, 5, 6, 7, 8, 9, 10, 11, 46]), (51, [3, 4, 5, 6, 7, 8, 9, 10, 11, 51]), (57, [3, 4, 5, 6, 7, 8, 9, 10, 11, 57]), (64, [3, 4, 5, 6, 7, 8, 9, 10, 11, 12, 64]), (68, [3, 4, 5, 6, 7, 8, 9, 10, 11, 12, 13, 65, 68]), (70, [3, 4, 5, 6, 7, 8, 9, 10, 11, 12, 13, 70]), (74, [3, 4, 5, 6, 7, 8, 9, 10, 11, 12, 70, 71, 74]), (76, [3, 4, 5, 6, 7, 8, 9, 10, 11, 12, 70, 76]), (88, [3, 4, 5, 6, 7, 8, 9, 10, 11, 12, 14, 15, 16, 17, 18, 88]), (100, [3, 4, 5, 6, 7, 8, 9, 10, 11, 12, 14, 15, 16, 17, 18, 88, 100]), (114, [6, 7, 8, 9, 10, 11, 12, 14, 15, 16, 17, 18, 114]), (119, [6, 9, 10, 11, 12, 14, 15, 17, 18, 119]), (125, [6, 11, 12, 14, 18, 120, 125]), (132, [6, 127, 132])]
set_option maxHeartbeats 8000000 in
theorem inflows_yes (up : List Ces) (hr : gl g_rotor_roots = rootsI) (hp : gl g_internal_strconv_uint64pow10 = powI) (b : Bl) (f : Fl) (hs : b.short = true) (ring a d x D : Int) :
    Cs gl n_nacellelaw03_RotorInflows up [b.iv, f.iv, .agg [.int .i64 ring, .int .i64 a, .int .i64 d, .int .i64 x, .int .i64 D]] (.bool true) up := by
  obtain ⟨hl, hd, hn⟩ := short_le hs
  have hS := fun up => c_Short (gl := gl) up b
  rw [hs] at hS
  have hI := fun up => c_Inflow (gl := gl) up b f ring a d
  have hC := fun up => c_Class (gl := gl) up b f ring x
  have hB := fun up => c_Balance (gl := gl) up b f ring a d
  simp only [inflR_z, balR_z, classR_z] at hI hC hB
  have hA := fun up => c_awake (gl := gl) up hr hp
  have hb := fun up => c_blade (gl := gl) up b hl hd hn
  have hF := fun up (f : Nat → List IV) (x y : Int) (h0 : f 0 = [.int .i64 x]) (h1 : f 1 = [.int .i64 y]) => c_rf2 (gl := gl) up f x y h0 h1
  obtain ⟨R, hR⟩ : ∃ R, R = ringErr b f ring := ⟨_, rfl⟩
  obtain ⟨A, hA'⟩ : ∃ A, A = orE R (indErr a d) := ⟨_, rfl⟩
  obtain ⟨B, hB'⟩ : ∃ B, B = orE R (withinS x 0 999999999) := ⟨_, rfl⟩
  have k1 : A = 0 → 0 ≤ ring ∧ ring < b.nr ∧ b.ok f ring.toNat ∧ ∃ D : Nat, d = D ∧ D ≤ 12 ∧ 0 ≤ a ∧ a ≤ 2 ^ D := fun h => by
    rw [hA', hR, orE_zero] at h
    obtain ⟨g1, g2, g3, g4⟩ := ringErr_ok h.1
    obtain ⟨n, rfl, n2, n3, n4⟩ := indErr_ok h.2
    obtain ⟨_, _, _, ok⟩ := Bl.good g1 g2
    have hp := Int.pow_succ (2 : Int) n
    have hq := two_pos n
    exact ⟨g3, g4, ok _ (by omega), n + 1, rfl, by omega, n3, by omega⟩
  have k2 : B = 0 → 0 ≤ ring ∧ ring < b.nr ∧ b.ok f ring.toNat ∧ 0 ≤ x ∧ x ≤ 999999999 := fun h => by
    rw [hB', hR, orE_zero, withinS_zero] at h
    obtain ⟨g1, g2, g3, g4⟩ := ringErr_ok h.1
    obtain ⟨_, _, _, ok⟩ := Bl.good g1 g2
    exact ⟨g3, g4, ok _ (by omega), h.2⟩
  rw [← hR, ← hA'] at hI hB
  rw [← hR, ← hB'] at hC
  have hR2 := fun up => c_rCheckRing (gl := gl) up b f ring
  rw [← hR] at hR2
  have hf1 := fun up => c_rfl2 (gl := gl) up R (indErr a d)
  rw [← hA'] at hf1
  have hf2 := fun up => c_rfl2 (gl := gl) up R (withinS x 0 999999999)
  rw [← hB'] at hf2
  clear hR hA' hB'
  by_cases zA : A = 0
  · obtain ⟨r0, r1, ok, D', rfl, d1, a0, a1⟩ := k1 zA
    have hI2 := fun up => c_rInflow (gl := gl) up b f ring.toNat ok a D' d1 a0 a1
    have hB2 := fun up => c_rBalance (gl := gl) up b f ring.toNat ok a D' d1 a0 a1
    refine mk h_nacellelaw03_RotorInflows rfl rfl ?_
    conv => whnf
    repeat first
      | (show DRAW _ _ _ _ _; (first | refine .mk 0 (by decide +kernel) ?_ | refine .mk 1 (by decide +kernel) ?_ | refine .mk 2 (by decide +kernel) ?_ | refine .mk 3 (by decide +kernel) ?_ | refine .mk 4 (by decide +kernel) ?_ | refine .mk 5 (by decide +kernel) ?_ | refine .mk 6 (by decide +kernel) ?_ | refine .mk 7 (by decide +kernel) ?_ | refine .mk 8 (by decide +kernel) ?_ | refine .mk 9 (by decide +kernel) ?_ | refine .mk 10 (by decide +kernel) ?_ | refine .mk 11 (by decide +kernel) ?_ | refine .mk 12 (by decide +kernel) ?_ | refine .mk 13 (by decide +kernel) ?_ | refine .mk 14 (by decide +kernel) ?_ | refine .mk 15 (by decide +kernel) ?_ | refine .mk 16 (by decide +kernel) ?_ | refine .mk 17 (by decide +kernel) ?_ | refine .mk 18 (by decide +kernel) ?_ | refine .mk 19 (by decide +kernel) ?_ | refine .mk 20 (by decide +kernel) ?_ | refine .mk 21 (by decide +kernel) ?_ | refine .mk 22 (by decide +kernel) ?_ | refine .mk 23 (by decide +kernel) ?_ | refine .mk 24 (by decide +kernel) ?_ | refine .mk 25 (by decide +kernel) ?_ | refine .mk 26 (by decide +kernel) ?_ | refine .mk 27 (by decide +kernel) ?_ | refine .mk 28 (by decide +kernel) ?_ | refine .mk 29 (by decide +kernel) ?_ | refine .mk 30 (by decide +kernel) ?_ | refine .mk 31 (by decide +kernel) ?_ | refine .mk 32 (by decide +kernel) ?_ | refine .mk 33 (by decide +kernel) ?_ | refine .mk 34 (by decide +kernel) ?_ | refine .mk 35 (by decide +kernel) ?_ | refine .mk 36 (by decide +kernel) ?_ | refine .mk 37 (by decide +kernel) ?_ | refine .mk 38 (by decide +kernel) ?_ | refine .mk 39 (by decide +kernel) ?_ | refine .mk 40 (by decide +kernel) ?_ | refine .mk 41 (by decide +kernel) ?_); (conv => whnf))
      | (refine CALL0.cutBy lvInflows _ _ _ _ _ (leL_refl _) (hA ..) rfl ?_; conv => whnf)
      | (refine CALL0.mk _ _ _ _ _ (leL_refl _) (hA ..) rfl ?_; conv => whnf)
      | (refine CALLQ.mk _ _ _ (leL_refl _) (hA ..) rfl ?_; conv => whnf)
      | (refine CALL0.cutBy lvInflows _ _ _ _ _ (leL_refl _) (hS ..) rfl ?_; conv => whnf)
      | (refine CALL0.mk _ _ _ _ _ (leL_refl _) (hS ..) rfl ?_; conv => whnf)
      | (refine CALLQ.mk _ _ _ (leL_refl _) (hS ..) rfl ?_; conv => whnf)
      | (refine CALL0.cutBy lvInflows _ _ _ _ _ (leL_refl _) (hb ..) rfl ?_; conv => whnf)
      | (refine CALL0.mk _ _ _ _ _ (leL_refl _) (hb ..) rfl ?_; conv => whnf)
      | (refine CALLQ.mk _ _ _ (leL_refl _) (hb ..) rfl ?_; conv => whnf)
      | (refine CALL0.cutBy lvInflows _ _ _ _ _ (leL_refl _) (hI ..) rfl ?_; conv => whnf)
      | (refine CALL0.mk _ _ _ _ _ (leL_refl _) (hI ..) rfl ?_; conv => whnf)
      | (refine CALLQ.mk _ _ _ (leL_refl _) (hI ..) rfl ?_; conv => whnf)
      | (refine CALL0.cutBy lvInflows _ _ _ _ _ (leL_refl _) (hC ..) rfl ?_; conv => whnf)
      | (refine CALL0.mk _ _ _ _ _ (leL_refl _) (hC ..) rfl ?_; conv => whnf)
      | (refine CALLQ.mk _ _ _ (leL_refl _) (hC ..) rfl ?_; conv => whnf)
      | (refine CALL0.cutBy lvInflows _ _ _ _ _ (leL_refl _) (hB ..) rfl ?_; conv => whnf)
      | (refine CALL0.mk _ _ _ _ _ (leL_refl _) (hB ..) rfl ?_; conv => whnf)
      | (refine CALLQ.mk _ _ _ (leL_refl _) (hB ..) rfl ?_; conv => whnf)
      | (refine CALL0.cutBy lvInflows _ _ _ _ _ (leL_refl _) (hR2 ..) rfl ?_; conv => whnf)
      | (refine CALL0.mk _ _ _ _ _ (leL_refl _) (hR2 ..) rfl ?_; conv => whnf)
      | (refine CALLQ.mk _ _ _ (leL_refl _) (hR2 ..) rfl ?_; conv => whnf)
      | (refine CALL0.cutBy lvInflows _ _ _ _ _ (leL_refl _) (c_rCheckInduction ..) rfl ?_; conv => whnf)
      | (refine CALL0.mk _ _ _ _ _ (leL_refl _) (c_rCheckInduction ..) rfl ?_; conv => whnf)
      | (refine CALLQ.mk _ _ _ (leL_refl _) (c_rCheckInduction ..) rfl ?_; conv => whnf)
      | (refine CALL0.cutBy lvInflows _ _ _ _ _ (leL_refl _) (c_CheckRange ..) rfl ?_; conv => whnf)
      | (refine CALL0.mk _ _ _ _ _ (leL_refl _) (c_CheckRange ..) rfl ?_; conv => whnf)
      | (refine CALLQ.mk _ _ _ (leL_refl _) (c_CheckRange ..) rfl ?_; conv => whnf)
      | (refine CALL0.cutBy lvInflows _ _ _ _ _ (leL_refl _) (hf1 ..) rfl ?_; conv => whnf)
      | (refine CALL0.mk _ _ _ _ _ (leL_refl _) (hf1 ..) rfl ?_; conv => whnf)
      | (refine CALLQ.mk _ _ _ (leL_refl _) (hf1 ..) rfl ?_; conv => whnf)
      | (refine CALL0.cutBy lvInflows _ _ _ _ _ (leL_refl _) (hf2 ..) rfl ?_; conv => whnf)
      | (refine CALL0.mk _ _ _ _ _ (leL_refl _) (hf2 ..) rfl ?_; conv => whnf)
      | (refine CALLQ.mk _ _ _ (leL_refl _) (hf2 ..) rfl ?_; conv => whnf)
    split
    rotate_left
    · rename_i h
      exact absurd h (by simp [zA])
    conv => whnf
    first
      | refine .mk 0 (by decide +kernel) ?_
      | refine .mk 1 (by decide +kernel) ?_
      | refine .mk 2 (by decide +kernel) ?_
      | refine .mk 3 (by decide +kernel) ?_
      | refine .mk 4 (by decide +kernel) ?_
      | refine .mk 5 (by decide +kernel) ?_
      | refine .mk 6 (by decide +kernel) ?_
      | refine .mk 7 (by decide +kernel) ?_
      | refine .mk 8 (by decide +kernel) ?_
      | refine .mk 9 (by decide +kernel) ?_
      | refine .mk 10 (by decide +kernel) ?_
      | refine .mk 11 (by decide +kernel) ?_
      | refine .mk 12 (by decide +kernel) ?_
      | refine .mk 13 (by decide +kernel) ?_
      | refine .mk 14 (by decide +kernel) ?_
      | refine .mk 15 (by decide +kernel) ?_
      | refine .mk 16 (by decide +kernel) ?_
      | refine .mk 17 (by decide +kernel) ?_
      | refine .mk 18 (by decide +kernel) ?_
      | refine .mk 19 (by decide +kernel) ?_
      | refine .mk 20 (by decide +kernel) ?_
      | refine .mk 21 (by decide +kernel) ?_
      | refine .mk 22 (by decide +kernel) ?_
      | refine .mk 23 (by decide +kernel) ?_
      | refine .mk 24 (by decide +kernel) ?_
      | refine .mk 25 (by decide +kernel) ?_
      | refine .mk 26 (by decide +kernel) ?_
      | refine .mk 27 (by decide +kernel) ?_
      | refine .mk 28 (by decide +kernel) ?_
      | refine .mk 29 (by decide +kernel) ?_
      | refine .mk 30 (by decide +kernel) ?_
      | refine .mk 31 (by decide +kernel) ?_
      | refine .mk 32 (by decide +kernel) ?_
      | refine .mk 33 (by decide +kernel) ?_
      | refine .mk 34 (by decide +kernel) ?_
      | refine .mk 35 (by decide +kernel) ?_
      | refine .mk 36 (by decide +kernel) ?_
      | refine .mk 37 (by decide +kernel) ?_
      | refine .mk 38 (by decide +kernel) ?_
      | refine .mk 39 (by decide +kernel) ?_
      | refine .mk 40 (by decide +kernel) ?_
      | refine .mk 41 (by decide +kernel) ?_
    conv => whnf
    split
    rotate_left
    · rename_i h
      have h' : decide (0 ≤ ring) = false := h
      simp at h' <;> omega
    conv => whnf
    split
    rotate_left
    · rename_i h
      have h' : decide (ring < b.nr) = false := h
      simp at h' <;> omega
    conv => whnf
    first | refine CALLQ.mk _ _ _ (leL_refl _) (hI2 _) rfl ?_ | refine CALL0.cutBy lvInflows _ _ _ _ _ (leL_refl _) (hI2 _) rfl ?_ | refine CALL0.mk _ _ _ _ _ (leL_refl _) (hI2 _) rfl ?_
    conv => whnf
    split
    rotate_left
    · rename_i h
      have h' : decide (0 ≤ ring) = false := h
      simp at h' <;> omega
    conv => whnf
    split
    rotate_left
    · rename_i h
      have h' : decide (ring < b.nr) = false := h
      simp at h' <;> omega
    conv => whnf
    first | refine CALLQ.mk _ _ _ (leL_refl _) (hB2 _) rfl ?_ | refine CALL0.cutBy lvInflows _ _ _ _ _ (leL_refl _) (hB2 _) rfl ?_ | refine CALL0.mk _ _ _ _ _ (leL_refl _) (hB2 _) rfl ?_
    conv => whnf
    by_cases zB : B = 0
    · obtain ⟨_, _, _, b0, b1⟩ := k2 zB
      have hC2 := fun up => c_rClass (gl := gl) up b f ring.toNat ok x (by omega) b1
      split
      rotate_left
      · rename_i h
        exact absurd h (by simp [zB])
      conv => whnf
      first
        | refine .mk 0 (by decide +kernel) ?_
        | refine .mk 1 (by decide +kernel) ?_
        | refine .mk 2 (by decide +kernel) ?_
        | refine .mk 3 (by decide +kernel) ?_
        | refine .mk 4 (by decide +kernel) ?_
        | refine .mk 5 (by decide +kernel) ?_
        | refine .mk 6 (by decide +kernel) ?_
        | refine .mk 7 (by decide +kernel) ?_
        | refine .mk 8 (by decide +kernel) ?_
        | refine .mk 9 (by decide +kernel) ?_
        | refine .mk 10 (by decide +kernel) ?_
        | refine .mk 11 (by decide +kernel) ?_
        | refine .mk 12 (by decide +kernel) ?_
        | refine .mk 13 (by decide +kernel) ?_
        | refine .mk 14 (by decide +kernel) ?_
        | refine .mk 15 (by decide +kernel) ?_
        | refine .mk 16 (by decide +kernel) ?_
        | refine .mk 17 (by decide +kernel) ?_
        | refine .mk 18 (by decide +kernel) ?_
        | refine .mk 19 (by decide +kernel) ?_
        | refine .mk 20 (by decide +kernel) ?_
        | refine .mk 21 (by decide +kernel) ?_
        | refine .mk 22 (by decide +kernel) ?_
        | refine .mk 23 (by decide +kernel) ?_
        | refine .mk 24 (by decide +kernel) ?_
        | refine .mk 25 (by decide +kernel) ?_
        | refine .mk 26 (by decide +kernel) ?_
        | refine .mk 27 (by decide +kernel) ?_
        | refine .mk 28 (by decide +kernel) ?_
        | refine .mk 29 (by decide +kernel) ?_
        | refine .mk 30 (by decide +kernel) ?_
        | refine .mk 31 (by decide +kernel) ?_
        | refine .mk 32 (by decide +kernel) ?_
        | refine .mk 33 (by decide +kernel) ?_
        | refine .mk 34 (by decide +kernel) ?_
        | refine .mk 35 (by decide +kernel) ?_
        | refine .mk 36 (by decide +kernel) ?_
        | refine .mk 37 (by decide +kernel) ?_
        | refine .mk 38 (by decide +kernel) ?_
        | refine .mk 39 (by decide +kernel) ?_
        | refine .mk 40 (by decide +kernel) ?_
        | refine .mk 41 (by decide +kernel) ?_
      conv => whnf
      split
      rotate_left
      · rename_i h
        have h' : decide (0 ≤ ring) = false := h
        simp at h' <;> omega
      conv => whnf
      split
      rotate_left
      · rename_i h
        have h' : decide (ring < b.nr) = false := h
        simp at h' <;> omega
      conv => whnf
      first | refine CALLQ.mk _ _ _ (leL_refl _) (hC2 _) rfl ?_ | refine CALL0.cutBy lvInflows _ _ _ _ _ (leL_refl _) (hC2 _) rfl ?_ | refine CALL0.mk _ _ _ _ _ (leL_refl _) (hC2 _) rfl ?_
      conv => whnf
      refine CALL0.cutBy lvInflows _ _ _ _ _ (leL_refl _) (c_number _ _ _ _ _ rfl (fun h => zE_ne h) (fun h => by first | exact absurd h zA | (rw [h]; rfl))) rfl ?_
      conv => whnf
      refine CALL0.cutBy lvInflows _ _ _ _ _ (leL_refl _) (c_number _ _ _ _ _ rfl (fun h => zE_ne h) (fun h => by first | exact absurd h zB | (rw [h]; rfl))) rfl ?_
      conv => whnf
      refine CALL0.cutBy lvInflows _ _ _ _ _ (leL_refl _) (c_number _ _ _ _ _ rfl (fun h => zE_ne h) (fun h => by first | exact absurd h zA | (rw [h]; rfl))) rfl ?_
      conv => whnf
      exact ⟨rfl, rfl⟩
    · split
      · rename_i h
        exact absurd h (by simp [zB])
      rename_i hN
      clear hN
      conv => whnf
      refine CALL0.cutBy lvInflows _ _ _ _ _ (leL_refl _) (c_number _ _ _ _ _ rfl (fun h => zE_ne h) (fun h => by first | exact absurd h zA | (rw [h]; rfl))) rfl ?_
      conv => whnf
      refine CALL0.cutBy lvInflows _ _ _ _ _ (leL_refl _) (c_number _ _ _ _ _ rfl (fun h => zE_ne h) (fun h => by first | exact absurd h zB | (rw [h]; rfl))) rfl ?_
      conv => whnf
      refine CALL0.cutBy lvInflows _ _ _ _ _ (leL_refl _) (c_number _ _ _ _ _ rfl (fun h => zE_ne h) (fun h => by first | exact absurd h zA | (rw [h]; rfl))) rfl ?_
      conv => whnf
      exact ⟨rfl, rfl⟩
  · refine mk h_nacellelaw03_RotorInflows rfl rfl ?_
    conv => whnf
    repeat first
      | (show DRAW _ _ _ _ _; (first | refine .mk 0 (by decide +kernel) ?_ | refine .mk 1 (by decide +kernel) ?_ | refine .mk 2 (by decide +kernel) ?_ | refine .mk 3 (by decide +kernel) ?_ | refine .mk 4 (by decide +kernel) ?_ | refine .mk 5 (by decide +kernel) ?_ | refine .mk 6 (by decide +kernel) ?_ | refine .mk 7 (by decide +kernel) ?_ | refine .mk 8 (by decide +kernel) ?_ | refine .mk 9 (by decide +kernel) ?_ | refine .mk 10 (by decide +kernel) ?_ | refine .mk 11 (by decide +kernel) ?_ | refine .mk 12 (by decide +kernel) ?_ | refine .mk 13 (by decide +kernel) ?_ | refine .mk 14 (by decide +kernel) ?_ | refine .mk 15 (by decide +kernel) ?_ | refine .mk 16 (by decide +kernel) ?_ | refine .mk 17 (by decide +kernel) ?_ | refine .mk 18 (by decide +kernel) ?_ | refine .mk 19 (by decide +kernel) ?_ | refine .mk 20 (by decide +kernel) ?_ | refine .mk 21 (by decide +kernel) ?_ | refine .mk 22 (by decide +kernel) ?_ | refine .mk 23 (by decide +kernel) ?_ | refine .mk 24 (by decide +kernel) ?_ | refine .mk 25 (by decide +kernel) ?_ | refine .mk 26 (by decide +kernel) ?_ | refine .mk 27 (by decide +kernel) ?_ | refine .mk 28 (by decide +kernel) ?_ | refine .mk 29 (by decide +kernel) ?_ | refine .mk 30 (by decide +kernel) ?_ | refine .mk 31 (by decide +kernel) ?_ | refine .mk 32 (by decide +kernel) ?_ | refine .mk 33 (by decide +kernel) ?_ | refine .mk 34 (by decide +kernel) ?_ | refine .mk 35 (by decide +kernel) ?_ | refine .mk 36 (by decide +kernel) ?_ | refine .mk 37 (by decide +kernel) ?_ | refine .mk 38 (by decide +kernel) ?_ | refine .mk 39 (by decide +kernel) ?_ | refine .mk 40 (by decide +kernel) ?_ | refine .mk 41 (by decide +kernel) ?_); (conv => whnf))
      | (refine CALL0.cutBy lvInflows _ _ _ _ _ (leL_refl _) (hA ..) rfl ?_; conv => whnf)
      | (refine CALL0.mk _ _ _ _ _ (leL_refl _) (hA ..) rfl ?_; conv => whnf)
      | (refine CALLQ.mk _ _ _ (leL_refl _) (hA ..) rfl ?_; conv => whnf)
      | (refine CALL0.cutBy lvInflows _ _ _ _ _ (leL_refl _) (hS ..) rfl ?_; conv => whnf)
      | (refine CALL0.mk _ _ _ _ _ (leL_refl _) (hS ..) rfl ?_; conv => whnf)
      | (refine CALLQ.mk _ _ _ (leL_refl _) (hS ..) rfl ?_; conv => whnf)
      | (refine CALL0.cutBy lvInflows _ _ _ _ _ (leL_refl _) (hb ..) rfl ?_; conv => whnf)
      | (refine CALL0.mk _ _ _ _ _ (leL_refl _) (hb ..) rfl ?_; conv => whnf)
      | (refine CALLQ.mk _ _ _ (leL_refl _) (hb ..) rfl ?_; conv => whnf)
      | (refine CALL0.cutBy lvInflows _ _ _ _ _ (leL_refl _) (hI ..) rfl ?_; conv => whnf)
      | (refine CALL0.mk _ _ _ _ _ (leL_refl _) (hI ..) rfl ?_; conv => whnf)
      | (refine CALLQ.mk _ _ _ (leL_refl _) (hI ..) rfl ?_; conv => whnf)
      | (refine CALL0.cutBy lvInflows _ _ _ _ _ (leL_refl _) (hC ..) rfl ?_; conv => whnf)
      | (refine CALL0.mk _ _ _ _ _ (leL_refl _) (hC ..) rfl ?_; conv => whnf)
      | (refine CALLQ.mk _ _ _ (leL_refl _) (hC ..) rfl ?_; conv => whnf)
      | (refine CALL0.cutBy lvInflows _ _ _ _ _ (leL_refl _) (hB ..) rfl ?_; conv => whnf)
      | (refine CALL0.mk _ _ _ _ _ (leL_refl _) (hB ..) rfl ?_; conv => whnf)
      | (refine CALLQ.mk _ _ _ (leL_refl _) (hB ..) rfl ?_; conv => whnf)
      | (refine CALL0.cutBy lvInflows _ _ _ _ _ (leL_refl _) (hR2 ..) rfl ?_; conv => whnf)
      | (refine CALL0.mk _ _ _ _ _ (leL_refl _) (hR2 ..) rfl ?_; conv => whnf)
      | (refine CALLQ.mk _ _ _ (leL_refl _) (hR2 ..) rfl ?_; conv => whnf)
      | (refine CALL0.cutBy lvInflows _ _ _ _ _ (leL_refl _) (c_rCheckInduction ..) rfl ?_; conv => whnf)
      | (refine CALL0.mk _ _ _ _ _ (leL_refl _) (c_rCheckInduction ..) rfl ?_; conv => whnf)
      | (refine CALLQ.mk _ _ _ (leL_refl _) (c_rCheckInduction ..) rfl ?_; conv => whnf)
      | (refine CALL0.cutBy lvInflows _ _ _ _ _ (leL_refl _) (c_CheckRange ..) rfl ?_; conv => whnf)
      | (refine CALL0.mk _ _ _ _ _ (leL_refl _) (c_CheckRange ..) rfl ?_; conv => whnf)
      | (refine CALLQ.mk _ _ _ (leL_refl _) (c_CheckRange ..) rfl ?_; conv => whnf)
      | (refine CALL0.cutBy lvInflows _ _ _ _ _ (leL_refl _) (hf1 ..) rfl ?_; conv => whnf)
      | (refine CALL0.mk _ _ _ _ _ (leL_refl _) (hf1 ..) rfl ?_; conv => whnf)
      | (refine CALLQ.mk _ _ _ (leL_refl _) (hf1 ..) rfl ?_; conv => whnf)
      | (refine CALL0.cutBy lvInflows _ _ _ _ _ (leL_refl _) (hf2 ..) rfl ?_; conv => whnf)
      | (refine CALL0.mk _ _ _ _ _ (leL_refl _) (hf2 ..) rfl ?_; conv => whnf)
      | (refine CALLQ.mk _ _ _ (leL_refl _) (hf2 ..) rfl ?_; conv => whnf)
    split
    · rename_i h
      exact absurd h (by simp [zA])
    rename_i hN
    clear hN
    conv => whnf
    by_cases zB : B = 0
    · obtain ⟨r0, r1, ok, b0, b1⟩ := k2 zB
      have hC2 := fun up => c_rClass (gl := gl) up b f ring.toNat ok x (by omega) b1
      split
      rotate_left
      · rename_i h
        exact absurd h (by simp [zB])
      conv => whnf
      first
        | refine .mk 0 (by decide +kernel) ?_
        | refine .mk 1 (by decide +kernel) ?_
        | refine .mk 2 (by decide +kernel) ?_
        | refine .mk 3 (by decide +kernel) ?_
        | refine .mk 4 (by decide +kernel) ?_
        | refine .mk 5 (by decide +kernel) ?_
        | refine .mk 6 (by decide +kernel) ?_
        | refine .mk 7 (by decide +kernel) ?_
        | refine .mk 8 (by decide +kernel) ?_
        | refine .mk 9 (by decide +kernel) ?_
        | refine .mk 10 (by decide +kernel) ?_
        | refine .mk 11 (by decide +kernel) ?_
        | refine .mk 12 (by decide +kernel) ?_
        | refine .mk 13 (by decide +kernel) ?_
        | refine .mk 14 (by decide +kernel) ?_
        | refine .mk 15 (by decide +kernel) ?_
        | refine .mk 16 (by decide +kernel) ?_
        | refine .mk 17 (by decide +kernel) ?_
        | refine .mk 18 (by decide +kernel) ?_
        | refine .mk 19 (by decide +kernel) ?_
        | refine .mk 20 (by decide +kernel) ?_
        | refine .mk 21 (by decide +kernel) ?_
        | refine .mk 22 (by decide +kernel) ?_
        | refine .mk 23 (by decide +kernel) ?_
        | refine .mk 24 (by decide +kernel) ?_
        | refine .mk 25 (by decide +kernel) ?_
        | refine .mk 26 (by decide +kernel) ?_
        | refine .mk 27 (by decide +kernel) ?_
        | refine .mk 28 (by decide +kernel) ?_
        | refine .mk 29 (by decide +kernel) ?_
        | refine .mk 30 (by decide +kernel) ?_
        | refine .mk 31 (by decide +kernel) ?_
        | refine .mk 32 (by decide +kernel) ?_
        | refine .mk 33 (by decide +kernel) ?_
        | refine .mk 34 (by decide +kernel) ?_
        | refine .mk 35 (by decide +kernel) ?_
        | refine .mk 36 (by decide +kernel) ?_
        | refine .mk 37 (by decide +kernel) ?_
        | refine .mk 38 (by decide +kernel) ?_
        | refine .mk 39 (by decide +kernel) ?_
        | refine .mk 40 (by decide +kernel) ?_
        | refine .mk 41 (by decide +kernel) ?_
      conv => whnf
      split
      rotate_left
      · rename_i h
        have h' : decide (0 ≤ ring) = false := h
        simp at h' <;> omega
      conv => whnf
      split
      rotate_left
      · rename_i h
        have h' : decide (ring < b.nr) = false := h
        simp at h' <;> omega
      conv => whnf
      first | refine CALLQ.mk _ _ _ (leL_refl _) (hC2 _) rfl ?_ | refine CALL0.cutBy lvInflows _ _ _ _ _ (leL_refl _) (hC2 _) rfl ?_ | refine CALL0.mk _ _ _ _ _ (leL_refl _) (hC2 _) rfl ?_
      conv => whnf
      refine CALL0.cutBy lvInflows _ _ _ _ _ (leL_refl _) (c_number _ _ _ _ _ rfl (fun h => zE_ne h) (fun h => by first | exact absurd h zA | (rw [h]; rfl))) rfl ?_
      conv => whnf
      refine CALL0.cutBy lvInflows _ _ _ _ _ (leL_refl _) (c_number _ _ _ _ _ rfl (fun h => zE_ne h) (fun h => by first | exact absurd h zB | (rw [h]; rfl))) rfl ?_
      conv => whnf
      refine CALL0.cutBy lvInflows _ _ _ _ _ (leL_refl _) (c_number _ _ _ _ _ rfl (fun h => zE_ne h) (fun h => by first | exact absurd h zA | (rw [h]; rfl))) rfl ?_
      conv => whnf
      exact ⟨rfl, rfl⟩
    · split
      · rename_i h
        exact absurd h (by simp [zB])
      rename_i hN
      clear hN
      conv => whnf
      refine CALL0.cutBy lvInflows _ _ _ _ _ (leL_refl _) (c_number _ _ _ _ _ rfl (fun h => zE_ne h) (fun h => by first | exact absurd h zA | (rw [h]; rfl))) rfl ?_
      conv => whnf
      refine CALL0.cutBy lvInflows _ _ _ _ _ (leL_refl _) (c_number _ _ _ _ _ rfl (fun h => zE_ne h) (fun h => by first | exact absurd h zB | (rw [h]; rfl))) rfl ?_
      conv => whnf
      refine CALL0.cutBy lvInflows _ _ _ _ _ (leL_refl _) (c_number _ _ _ _ _ rfl (fun h => zE_ne h) (fun h => by first | exact absurd h zA | (rw [h]; rfl))) rfl ?_
      conv => whnf
      exact ⟨rfl, rfl⟩

theorem c_RotorInflows (up : List Ces) (hr : gl g_rotor_roots = rootsI) (hp : gl g_internal_strconv_uint64pow10 = powI) (b : Bl) (f : Fl) (ring a d x D : Int) :
    Cs gl n_nacellelaw03_RotorInflows up [b.iv, f.iv, .agg [.int .i64 ring, .int .i64 a, .int .i64 d, .int .i64 x, .int .i64 D]] (.bool true) up := by
  cases hs : b.short with
  | true => exact inflows_yes up hr hp b f hs ring a d x D
  | false => exact inflows_no up hr hp b f hs ring a d x D
end Go.Proofs.YtllmejkmogepjaaDoor.Ix

/-
  Rx1: contracts of the reference's texts: numerals, the text of a blade.
-/
namespace Go.Proofs.YtllmejkmogepjaaDoor.Ix
open Go.Proofs
set_option maxRecDepth 100000
set_option linter.unusedVariables false
set_option linter.unusedSimpArgs false
variable {gl : Nat → IV}

theorem dec_step {u : Nat} (h : 10 ≤ u) : Go.Lib.decDigits u = Go.Lib.decDigits (u / 10) ++ Go.Lib.decDigits (u % 10) := by
  conv => lhs; rw [Go.Lib.decDigits]
  rw [dif_neg (by omega), Go.Lib.decDigits_one (i := u % 10) (by omega)]

theorem len21 {u : Nat} (h : u ≤ 1000000000000000000) : (Go.Lib.decDigits u).length ≤ 21 := by
  have := Go.Lib.itoa_length_le (u : Int) (by omega) (by omega)
  rw [Go.Lib.itoa_nonneg] at this
  exact this

theorem c_text1 (up : List Ces) (n : Nat) (h : n < 10) : Cs gl n_nacelleref01_Text up [.int .i64 n] (.str (bytesS (Go.Lib.decDigits n))) up := by
  have q1 : decide ((n : Int) > 9) = false := decide_eq_false (by omega)
  have q3 : decide ((n : Int) < 0) = false := decide_eq_false (by omega)
  have e : IntKind.u8.wrap (IntKind.i64.wrap (48 + (n : Int))) = 48 + (n : Int) := by
    have e1 : IntKind.i64.wrap (48 + (n : Int)) = 48 + (n : Int) := by rw [wrap_in] <;> omega
    rw [e1]
    unfold IntKind.wrap
    simp [IntKind.bits, IntKind.signed]
    omega
  have q4 : decide (0 ≤ IntKind.u8.wrap (IntKind.i64.wrap (48 + (n : Int)))) = true := decide_eq_true (by rw [e]; omega)
  have q5 : decide (IntKind.u8.wrap (IntKind.i64.wrap (48 + (n : Int))) < 256) = true := decide_eq_true (by rw [e]; omega)
  rw [Go.Lib.decDigits_one h]
  refine mk h_nacelleref01_Text rfl rfl ?_
  conv => whnf
  split
  · rename_i h
    exact Bool.noConfusion ((q1).symm.trans h)
  rename_i hN
  clear hN
  conv => whnf
  split
  rotate_left
  · rename_i h
    exact Bool.noConfusion ((q4).symm.trans h)
  rename_i hN
  clear hN
  conv => whnf
  split
  rotate_left
  · rename_i h
    exact Bool.noConfusion ((q5).symm.trans h)
  rename_i hN
  clear hN
  conv => whnf
  refine ⟨?_, rfl⟩
  show IV.str ⟨#[UInt8.ofNat (IntKind.u8.wrap (IntKind.i64.wrap (48 + (n : Int)))).toNat]⟩ = _
  rw [e, show (48 + (n : Int)).toNat = 48 + n by omega]

theorem c_text2 : ∀ (n : Nat), n ≤ 1000000000000000000 → ∀ up, Cs gl n_nacelleref01_Text up [.int .i64 n] (.str (bytesS (Go.Lib.decDigits n))) up := by
  intro n
  induction n using Nat.strongRecOn with
  | ind n ih =>
  intro hn up
  by_cases h : n < 10
  · exact c_text1 up n h
  have q1 : decide ((n : Int) > 9) = true := decide_eq_true (by omega)
  have e1 : w64 ((n : Int).tdiv 10) = ((n / 10 : Nat) : Int) := by
    rw [Int.tdiv_eq_ediv_of_nonneg (by omega), w64, wrap_in] <;> omega
  have e2 : (n : Int).tmod 10 = ((n % 10 : Nat) : Int) := by
    rw [Int.tmod_eq_emod_of_nonneg (by omega)]; omega
  have h1 := ih (n / 10) (by omega) (by omega)
  have h2 := fun up => c_text1 (gl := gl) up (n % 10) (by omega)
  rw [← e1] at h1
  rw [← e2] at h2
  have l1 := len21 (u := n / 10) (by omega)
  have l2 := len21 (u := n % 10) (by omega)
  have q2 : decide ((bytesS (Go.Lib.decDigits (n / 10))).size + (bytesS (Go.Lib.decDigits (n % 10))).size ≤ 1099511627776) = true := decide_eq_true (by rw [bytesS_size, bytesS_size]; omega)
  rw [dec_step (u := n) (by omega), ← bytesS_append]
  refine mk h_nacelleref01_Text rfl rfl ?_
  conv => whnf
  split
  rotate_left
  · rename_i h
    exact Bool.noConfusion ((q1).symm.trans h)
  rename_i hN
  clear hN
  conv => whnf
  repeat first
    | (show DRAW _ _ _ _ _; (first | refine .mk 0 (by decide +kernel) ?_ | refine .mk 1 (by decide +kernel) ?_ | refine .mk 2 (by decide +kernel) ?_ | refine .mk 3 (by decide +kernel) ?_ | refine .mk 4 (by decide +kernel) ?_ | refine .mk 5 (by decide +kernel) ?_ | refine .mk 6 (by decide +kernel) ?_ | refine .mk 7 (by decide +kernel) ?_ | refine .mk 8 (by decide +kernel) ?_ | refine .mk 9 (by decide +kernel) ?_ | refine .mk 10 (by decide +kernel) ?_ | refine .mk 11 (by decide +kernel) ?_ | refine .mk 12 (by decide +kernel) ?_ | refine .mk 13 (by decide +kernel) ?_ | refine .mk 14 (by decide +kernel) ?_ | refine .mk 15 (by decide +kernel) ?_ | refine .mk 16 (by decide +kernel) ?_ | refine .mk 17 (by decide +kernel) ?_ | refine .mk 18 (by decide +kernel) ?_ | refine .mk 19 (by decide +kernel) ?_ | refine .mk 20 (by decide +kernel) ?_ | refine .mk 21 (by decide +kernel) ?_ | refine .mk 22 (by decide +kernel) ?_ | refine .mk 23 (by decide +kernel) ?_ | refine .mk 24 (by decide +kernel) ?_ | refine .mk 25 (by decide +kernel) ?_ | refine .mk 26 (by decide +kernel) ?_ | refine .mk 27 (by decide +kernel) ?_ | refine .mk 28 (by decide +kernel) ?_ | refine .mk 29 (by decide +kernel) ?_ | refine .mk 30 (by decide +kernel) ?_ | refine .mk 31 (by decide +kernel) ?_ | refine .mk 32 (by decide +kernel) ?_ | refine .mk 33 (by decide +kernel) ?_ | refine .mk 34 (by decide +kernel) ?_ | refine .mk 35 (by decide +kernel) ?_ | refine .mk 36 (by decide +kernel) ?_ | refine .mk 37 (by decide +kernel) ?_ | refine .mk 38 (by decide +kernel) ?_ | refine .mk 39 (by decide +kernel) ?_ | refine .mk 40 (by decide +kernel) ?_ | refine .mk 41 (by decide +kernel) ?_); (conv => whnf))
    | (refine CALL0.mk _ _ _ _ _ (leL_refl _) (h1 ..) rfl ?_; conv => whnf)
    | (refine CALLQ.mk _ _ _ (leL_refl _) (h1 ..) rfl ?_; conv => whnf)
  repeat first
    | (show DRAW _ _ _ _ _; (first | refine .mk 0 (by decide +kernel) ?_ | refine .mk 1 (by decide +kernel) ?_ | refine .mk 2 (by decide +kernel) ?_ | refine .mk 3 (by decide +kernel) ?_ | refine .mk 4 (by decide +kernel) ?_ | refine .mk 5 (by decide +kernel) ?_ | refine .mk 6 (by decide +kernel) ?_ | refine .mk 7 (by decide +kernel) ?_ | refine .mk 8 (by decide +kernel) ?_ | refine .mk 9 (by decide +kernel) ?_ | refine .mk 10 (by decide +kernel) ?_ | refine .mk 11 (by decide +kernel) ?_ | refine .mk 12 (by decide +kernel) ?_ | refine .mk 13 (by decide +kernel) ?_ | refine .mk 14 (by decide +kernel) ?_ | refine .mk 15 (by decide +kernel) ?_ | refine .mk 16 (by decide +kernel) ?_ | refine .mk 17 (by decide +kernel) ?_ | refine .mk 18 (by decide +kernel) ?_ | refine .mk 19 (by decide +kernel) ?_ | refine .mk 20 (by decide +kernel) ?_ | refine .mk 21 (by decide +kernel) ?_ | refine .mk 22 (by decide +kernel) ?_ | refine .mk 23 (by decide +kernel) ?_ | refine .mk 24 (by decide +kernel) ?_ | refine .mk 25 (by decide +kernel) ?_ | refine .mk 26 (by decide +kernel) ?_ | refine .mk 27 (by decide +kernel) ?_ | refine .mk 28 (by decide +kernel) ?_ | refine .mk 29 (by decide +kernel) ?_ | refine .mk 30 (by decide +kernel) ?_ | refine .mk 31 (by decide +kernel) ?_ | refine .mk 32 (by decide +kernel) ?_ | refine .mk 33 (by decide +kernel) ?_ | refine .mk 34 (by decide +kernel) ?_ | refine .mk 35 (by decide +kernel) ?_ | refine .mk 36 (by decide +kernel) ?_ | refine .mk 37 (by decide +kernel) ?_ | refine .mk 38 (by decide +kernel) ?_ | refine .mk 39 (by decide +kernel) ?_ | refine .mk 40 (by decide +kernel) ?_ | refine .mk 41 (by decide +kernel) ?_); (conv => whnf))
    | (refine CALL0.mk _ _ _ _ _ (leL_refl _) (h2 ..) rfl ?_; conv => whnf)
    | (refine CALLQ.mk _ _ _ (leL_refl _) (h2 ..) rfl ?_; conv => whnf)
  split
  rotate_left
  · rename_i h
    exact Bool.noConfusion ((q2).symm.trans h)
  rename_i hN
  clear hN
  conv => whnf
  exact ⟨rfl, rfl⟩

theorem c_text3 : ∀ (n : Nat), 1 ≤ n → n ≤ 1000000000000000000 → ∀ up, Cs gl n_nacelleref01_Text up [.int .i64 (-(n : Int))] (.str (bytesS (45 :: Go.Lib.decDigits n))) up := by
  intro n
  induction n using Nat.strongRecOn with
  | ind n ih =>
  intro h0 hn up
  have q1 : decide (-(n : Int) > 9) = false := decide_eq_false (by omega)
  by_cases h : n < 10
  · have q2 : decide (-(n : Int) < -9) = false := decide_eq_false (by omega)
    have q3 : decide (-(n : Int) < 0) = true := decide_eq_true (by omega)
    have e1 : w64 (0 - -(n : Int)) = n := by rw [w64, wrap_in] <;> omega
    have h1 := fun up => c_text1 (gl := gl) up n h
    rw [← e1] at h1
    have l1 := len21 (u := n) (by omega)
    have q4 : decide ((bytesS [45]).size + (bytesS (Go.Lib.decDigits n)).size ≤ 1099511627776) = true := decide_eq_true (by rw [bytesS_size, bytesS_size]; simp; omega)
    rw [show (45 : UInt8) :: Go.Lib.decDigits n = [45] ++ Go.Lib.decDigits n from rfl, ← bytesS_append]
    refine mk h_nacelleref01_Text rfl rfl ?_
    conv => whnf
    split
    · rename_i h
      exact Bool.noConfusion ((q1).symm.trans h)
    rename_i hN
    clear hN
    conv => whnf
    split
    · rename_i h
      exact Bool.noConfusion ((q2).symm.trans h)
    rename_i hN
    clear hN
    conv => whnf
    split
    rotate_left
    · rename_i h
      exact Bool.noConfusion ((q3).symm.trans h)
    rename_i hN
    clear hN
    conv => whnf
    repeat first
      | (show DRAW _ _ _ _ _; (first | refine .mk 0 (by decide +kernel) ?_ | refine .mk 1 (by decide +kernel) ?_ | refine .mk 2 (by decide +kernel) ?_ | refine .mk 3 (by decide +kernel) ?_ | refine .mk 4 (by decide +kernel) ?_ | refine .mk 5 (by decide +kernel) ?_ | refine .mk 6 (by decide +kernel) ?_ | refine .mk 7 (by decide +kernel) ?_ | refine .mk 8 (by decide +kernel) ?_ | refine .mk 9 (by decide +kernel) ?_ | refine .mk 10 (by decide +kernel) ?_ | refine .mk 11 (by decide +kernel) ?_ | refine .mk 12 (by decide +kernel) ?_ | refine .mk 13 (by decide +kernel) ?_ | refine .mk 14 (by decide +kernel) ?_ | refine .mk 15 (by decide +kernel) ?_ | refine .mk 16 (by decide +kernel) ?_ | refine .mk 17 (by decide +kernel) ?_ | refine .mk 18 (by decide +kernel) ?_ | refine .mk 19 (by decide +kernel) ?_ | refine .mk 20 (by decide +kernel) ?_ | refine .mk 21 (by decide +kernel) ?_ | refine .mk 22 (by decide +kernel) ?_ | refine .mk 23 (by decide +kernel) ?_ | refine .mk 24 (by decide +kernel) ?_ | refine .mk 25 (by decide +kernel) ?_ | refine .mk 26 (by decide +kernel) ?_ | refine .mk 27 (by decide +kernel) ?_ | refine .mk 28 (by decide +kernel) ?_ | refine .mk 29 (by decide +kernel) ?_ | refine .mk 30 (by decide +kernel) ?_ | refine .mk 31 (by decide +kernel) ?_ | refine .mk 32 (by decide +kernel) ?_ | refine .mk 33 (by decide +kernel) ?_ | refine .mk 34 (by decide +kernel) ?_ | refine .mk 35 (by decide +kernel) ?_ | refine .mk 36 (by decide +kernel) ?_ | refine .mk 37 (by decide +kernel) ?_ | refine .mk 38 (by decide +kernel) ?_ | refine .mk 39 (by decide +kernel) ?_ | refine .mk 40 (by decide +kernel) ?_ | refine .mk 41 (by decide +kernel) ?_); (conv => whnf))
      | (refine CALL0.mk _ _ _ _ _ (leL_refl _) (h1 ..) rfl ?_; conv => whnf)
      | (refine CALLQ.mk _ _ _ (leL_refl _) (h1 ..) rfl ?_; conv => whnf)
    split
    rotate_left
    · rename_i h
      exact Bool.noConfusion ((q4).symm.trans h)
    rename_i hN
    clear hN
    conv => whnf
    exact ⟨rfl, rfl⟩
  · have q2 : decide (-(n : Int) < -9) = true := decide_eq_true (by omega)
    have e1 : w64 ((-(n : Int)).tdiv 10) = -((n / 10 : Nat) : Int) := by
      rw [Int.neg_tdiv, Int.tdiv_eq_ediv_of_nonneg (by omega), w64, wrap_in] <;> omega
    have e2 : w64 (0 - (-(n : Int)).tmod 10) = ((n % 10 : Nat) : Int) := by
      rw [Int.neg_tmod, Int.tmod_eq_emod_of_nonneg (by omega), w64, wrap_in] <;> omega
    have h1 := ih (n / 10) (by omega) (by omega) (by omega)
    have h2 := fun up => c_text1 (gl := gl) up (n % 10) (by omega)
    rw [← e1] at h1
    rw [← e2] at h2
    have l1 := len21 (u := n / 10) (by omega)
    have l2 := len21 (u := n % 10) (by omega)
    have q4 : decide ((bytesS (45 :: Go.Lib.decDigits (n / 10))).size + (bytesS (Go.Lib.decDigits (n % 10))).size ≤ 1099511627776) = true := decide_eq_true (by rw [bytesS_size, bytesS_size]; simp; omega)
    rw [dec_step (u := n) (by omega), ← List.cons_append, ← bytesS_append]
    refine mk h_nacelleref01_Text rfl rfl ?_
    conv => whnf
    split
    · rename_i h
      exact Bool.noConfusion ((q1).symm.trans h)
    rename_i hN
    clear hN
    conv => whnf
    split
    rotate_left
    · rename_i h
      exact Bool.noConfusion ((q2).symm.trans h)
    rename_i hN
    clear hN
    conv => whnf
    repeat first
      | (show DRAW _ _ _ _ _; (first | refine .mk 0 (by decide +kernel) ?_ | refine .mk 1 (by decide +kernel) ?_ | refine .mk 2 (by decide +kernel) ?_ | refine .mk 3 (by decide +kernel) ?_ | refine .mk 4 (by decide +kernel) ?_ | refine .mk 5 (by decide +kernel) ?_ | refine .mk 6 (by decide +kernel) ?_ | refine .mk 7 (by decide +kernel) ?_ | refine .mk 8 (by decide +kernel) ?_ | refine .mk 9 (by decide +kernel) ?_ | refine .mk 10 (by decide +kernel) ?_ | refine .mk 11 (by decide +kernel) ?_ | refine .mk 12 (by decide +kernel) ?_ | refine .mk 13 (by decide +kernel) ?_ | refine .mk 14 (by decide +kernel) ?_ | refine .mk 15 (by decide +kernel) ?_ | refine .mk 16 (by decide +kernel) ?_ | refine .mk 17 (by decide +kernel) ?_ | refine .mk 18 (by decide +kernel) ?_ | refine .mk 19 (by decide +kernel) ?_ | refine .mk 20 (by decide +kernel) ?_ | refine .mk 21 (by decide +kernel) ?_ | refine .mk 22 (by decide +kernel) ?_ | refine .mk 23 (by decide +kernel) ?_ | refine .mk 24 (by decide +kernel) ?_ | refine .mk 25 (by decide +kernel) ?_ | refine .mk 26 (by decide +kernel) ?_ | refine .mk 27 (by decide +kernel) ?_ | refine .mk 28 (by decide +kernel) ?_ | refine .mk 29 (by decide +kernel) ?_ | refine .mk 30 (by decide +kernel) ?_ | refine .mk 31 (by decide +kernel) ?_ | refine .mk 32 (by decide +kernel) ?_ | refine .mk 33 (by decide +kernel) ?_ | refine .mk 34 (by decide +kernel) ?_ | refine .mk 35 (by decide +kernel) ?_ | refine .mk 36 (by decide +kernel) ?_ | refine .mk 37 (by decide +kernel) ?_ | refine .mk 38 (by decide +kernel) ?_ | refine .mk 39 (by decide +kernel) ?_ | refine .mk 40 (by decide +kernel) ?_ | refine .mk 41 (by decide +kernel) ?_); (conv => whnf))
      | (refine CALL0.mk _ _ _ _ _ (leL_refl _) (h1 ..) rfl ?_; conv => whnf)
      | (refine CALLQ.mk _ _ _ (leL_refl _) (h1 ..) rfl ?_; conv => whnf)
    repeat first
      | (show DRAW _ _ _ _ _; (first | refine .mk 0 (by decide +kernel) ?_ | refine .mk 1 (by decide +kernel) ?_ | refine .mk 2 (by decide +kernel) ?_ | refine .mk 3 (by decide +kernel) ?_ | refine .mk 4 (by decide +kernel) ?_ | refine .mk 5 (by decide +kernel) ?_ | refine .mk 6 (by decide +kernel) ?_ | refine .mk 7 (by decide +kernel) ?_ | refine .mk 8 (by decide +kernel) ?_ | refine .mk 9 (by decide +kernel) ?_ | refine .mk 10 (by decide +kernel) ?_ | refine .mk 11 (by decide +kernel) ?_ | refine .mk 12 (by decide +kernel) ?_ | refine .mk 13 (by decide +kernel) ?_ | refine .mk 14 (by decide +kernel) ?_ | refine .mk 15 (by decide +kernel) ?_ | refine .mk 16 (by decide +kernel) ?_ | refine .mk 17 (by decide +kernel) ?_ | refine .mk 18 (by decide +kernel) ?_ | refine .mk 19 (by decide +kernel) ?_ | refine .mk 20 (by decide +kernel) ?_ | refine .mk 21 (by decide +kernel) ?_ | refine .mk 22 (by decide +kernel) ?_ | refine .mk 23 (by decide +kernel) ?_ | refine .mk 24 (by decide +kernel) ?_ | refine .mk 25 (by decide +kernel) ?_ | refine .mk 26 (by decide +kernel) ?_ | refine .mk 27 (by decide +kernel) ?_ | refine .mk 28 (by decide +kernel) ?_ | refine .mk 29 (by decide +kernel) ?_ | refine .mk 30 (by decide +kernel) ?_ | refine .mk 31 (by decide +kernel) ?_ | refine .mk 32 (by decide +kernel) ?_ | refine .mk 33 (by decide +kernel) ?_ | refine .mk 34 (by decide +kernel) ?_ | refine .mk 35 (by decide +kernel) ?_ | refine .mk 36 (by decide +kernel) ?_ | refine .mk 37 (by decide +kernel) ?_ | refine .mk 38 (by decide +kernel) ?_ | refine .mk 39 (by decide +kernel) ?_ | refine .mk 40 (by decide +kernel) ?_ | refine .mk 41 (by decide +kernel) ?_); (conv => whnf))
      | (refine CALL0.mk _ _ _ _ _ (leL_refl _) (h2 ..) rfl ?_; conv => whnf)
      | (refine CALLQ.mk _ _ _ (leL_refl _) (h2 ..) rfl ?_; conv => whnf)
    split
    rotate_left
    · rename_i h
      exact Bool.noConfusion ((q4).symm.trans h)
    rename_i hN
    clear hN
    conv => whnf
    exact ⟨rfl, rfl⟩

theorem c_rText (up : List Ces) (n : Int) (h0 : -1000000000000000000 ≤ n) (h1 : n ≤ 1000000000000000000) : Cs gl n_nacelleref01_Text up [.int .i64 n] (.str (bytesS (Go.Lib.itoa n))) up := by
  by_cases h : n < 0
  · have := c_text3 (gl := gl) n.natAbs (by omega) (by omega) up
    rw [show -((n.natAbs : Nat) : Int) = n by omega] at this
    unfold Go.Lib.itoa
    rw [if_pos h]; exact this
  · have := c_text2 (gl := gl) n.toNat (by omega) up
    rw [show ((n.toNat : Nat) : Int) = n by omega] at this
    unfold Go.Lib.itoa
    rw [if_neg h]; exact this

theorem itoa21 (n : Int) (h : i64 n) : (Go.Lib.itoa n).length ≤ 21 := Go.Lib.itoa_length_le n h.1 h.2

theorem c_rPrint (up : List Ces) (b : Bl) (hb : b.err = 0) : Cs gl n_nacelleref03_Print up [b.iv] (.str (bytesS b.text)) up := by
  obtain ⟨hnd, hn1, hn2, ok⟩ := Bl.good (b := b) (f := ⟨1, 1, 0⟩) hb (by decide)
  have ok0 := ok 0 (by omega)
  have hl1 := ok0.n1
  have hpol : ∀ i, i < 2 * b.nl → -1000 ≤ b.pol i ∧ b.pol i ≤ 1000 := fun i hi => by
    have h1 := ok0.lf0 (i / 2) (by omega)
    have h2 := ok0.df0 (i / 2) (by omega)
    unfold Bl.pol
    split <;> omega
  have hpi : ∀ i, i < 2 * b.nl → i64 (b.pol i) := fun i hi => by have := hpol i hi; unfold i64; omega
  refine mk h_nacelleref03_Print rfl rfl ?_
  conv => whnf
  refine .mk (α := {k : Nat // k ≤ b.nl}) (fun k => ⟨[(4, .int .i64 k.1), (3, .str (bytesS (polarW ++ numsS b.pol (2 * k.1)))), (1, .ptr 0 1 0)],
    [(1, [.lst none 1 b.nl fun i => [.int .i64 (b.lf i)], .lst none 1 b.nd fun i => [.int .i64 (b.df i)], .lst none 4 b.nr fun i => [.int .i64 (b.r1 i), .int .i64 (b.r2 i), .int .i64 (b.r3 i), .int .i64 (b.r4 i)]])], up⟩) (fun k => b.nl - k.1) ⟨0, Nat.zero_le _⟩ ⟨?_, ?_, rfl, rfl⟩ ?_
  · exact ⟨leV_refl _, leV_refl _, leV_refl _, trivial⟩
  · exact ⟨leL_refl _, trivial⟩
  rintro ⟨k, hk⟩
  have ek : w64 ((k : Int) + 1) = ((k + 1 : Nat) : Int) := by rw [w64, wrap_in] <;> omega
  by_cases hkn : k < b.nl
  · have q : decide ((k : Int) < b.nl) = true := decide_eq_true (by omega)
    have p1 := hpol (2 * k) (by omega)
    have p2 := hpol (2 * k + 1) (by omega)
    have e1 : b.pol (2 * k) = b.lf k := by unfold Bl.pol; rw [if_pos (by omega), show 2 * k / 2 = k by omega]
    have e2 : b.pol (2 * k + 1) = b.df k := by unfold Bl.pol; rw [if_neg (by omega), show (2 * k + 1) / 2 = k by omega]
    rw [e1] at p1
    rw [e2] at p2
    have h1 := fun up => c_rText (gl := gl) up (b.lf k) (by omega) (by omega)
    have h2 := fun up => c_rText (gl := gl) up (b.df k) (by omega) (by omega)
    have l1 := itoa21 (b.lf k) (by unfold i64; omega)
    have l2 := itoa21 (b.df k) (by unfold i64; omega)
    have l3 := numsS_len (2 * k) fun i hi => hpi i (by omega)
    conv => whnf
    split
    rotate_left
    · rename_i h
      exact Bool.noConfusion ((q).symm.trans h)
    rename_i hN
    clear hN
    conv => whnf
    first
      | refine .mk 0 (by decide +kernel) ?_
      | refine .mk 1 (by decide +kernel) ?_
      | refine .mk 2 (by decide +kernel) ?_
      | refine .mk 3 (by decide +kernel) ?_
      | refine .mk 4 (by decide +kernel) ?_
      | refine .mk 5 (by decide +kernel) ?_
      | refine .mk 6 (by decide +kernel) ?_
      | refine .mk 7 (by decide +kernel) ?_
      | refine .mk 8 (by decide +kernel) ?_
      | refine .mk 9 (by decide +kernel) ?_
      | refine .mk 10 (by decide +kernel) ?_
      | refine .mk 11 (by decide +kernel) ?_
      | refine .mk 12 (by decide +kernel) ?_
      | refine .mk 13 (by decide +kernel) ?_
      | refine .mk 14 (by decide +kernel) ?_
      | refine .mk 15 (by decide +kernel) ?_
      | refine .mk 16 (by decide +kernel) ?_
      | refine .mk 17 (by decide +kernel) ?_
      | refine .mk 18 (by decide +kernel) ?_
      | refine .mk 19 (by decide +kernel) ?_
      | refine .mk 20 (by decide +kernel) ?_
      | refine .mk 21 (by decide +kernel) ?_
      | refine .mk 22 (by decide +kernel) ?_
      | refine .mk 23 (by decide +kernel) ?_
      | refine .mk 24 (by decide +kernel) ?_
      | refine .mk 25 (by decide +kernel) ?_
      | refine .mk 26 (by decide +kernel) ?_
      | refine .mk 27 (by decide +kernel) ?_
      | refine .mk 28 (by decide +kernel) ?_
      | refine .mk 29 (by decide +kernel) ?_
      | refine .mk 30 (by decide +kernel) ?_
      | refine .mk 31 (by decide +kernel) ?_
      | refine .mk 32 (by decide +kernel) ?_
      | refine .mk 33 (by decide +kernel) ?_
      | refine .mk 34 (by decide +kernel) ?_
      | refine .mk 35 (by decide +kernel) ?_
      | refine .mk 36 (by decide +kernel) ?_
      | refine .mk 37 (by decide +kernel) ?_
      | refine .mk 38 (by decide +kernel) ?_
      | refine .mk 39 (by decide +kernel) ?_
      | refine .mk 40 (by decide +kernel) ?_
      | refine .mk 41 (by decide +kernel) ?_
    conv => whnf
    split
    rotate_left
    · rename_i h
      have h := of_decide_eq_false h
      simp only [ByteArray.size_append, bytesS_size, List.length_append, List.length_cons, List.length_nil] at h
      omega
    rename_i hN
    clear hN
    conv => whnf
    split
    rotate_left
    · rename_i h
      exact Bool.noConfusion ((q).symm.trans h)
    rename_i hN
    clear hN
    conv => whnf
    repeat first
      | (show DRAW _ _ _ _ _; (first | refine .mk 0 (by decide +kernel) ?_ | refine .mk 1 (by decide +kernel) ?_ | refine .mk 2 (by decide +kernel) ?_ | refine .mk 3 (by decide +kernel) ?_ | refine .mk 4 (by decide +kernel) ?_ | refine .mk 5 (by decide +kernel) ?_ | refine .mk 6 (by decide +kernel) ?_ | refine .mk 7 (by decide +kernel) ?_ | refine .mk 8 (by decide +kernel) ?_ | refine .mk 9 (by decide +kernel) ?_ | refine .mk 10 (by decide +kernel) ?_ | refine .mk 11 (by decide +kernel) ?_ | refine .mk 12 (by decide +kernel) ?_ | refine .mk 13 (by decide +kernel) ?_ | refine .mk 14 (by decide +kernel) ?_ | refine .mk 15 (by decide +kernel) ?_ | refine .mk 16 (by decide +kernel) ?_ | refine .mk 17 (by decide +kernel) ?_ | refine .mk 18 (by decide +kernel) ?_ | refine .mk 19 (by decide +kernel) ?_ | refine .mk 20 (by decide +kernel) ?_ | refine .mk 21 (by decide +kernel) ?_ | refine .mk 22 (by decide +kernel) ?_ | refine .mk 23 (by decide +kernel) ?_ | refine .mk 24 (by decide +kernel) ?_ | refine .mk 25 (by decide +kernel) ?_ | refine .mk 26 (by decide +kernel) ?_ | refine .mk 27 (by decide +kernel) ?_ | refine .mk 28 (by decide +kernel) ?_ | refine .mk 29 (by decide +kernel) ?_ | refine .mk 30 (by decide +kernel) ?_ | refine .mk 31 (by decide +kernel) ?_ | refine .mk 32 (by decide +kernel) ?_ | refine .mk 33 (by decide +kernel) ?_ | refine .mk 34 (by decide +kernel) ?_ | refine .mk 35 (by decide +kernel) ?_ | refine .mk 36 (by decide +kernel) ?_ | refine .mk 37 (by decide +kernel) ?_ | refine .mk 38 (by decide +kernel) ?_ | refine .mk 39 (by decide +kernel) ?_ | refine .mk 40 (by decide +kernel) ?_ | refine .mk 41 (by decide +kernel) ?_); (conv => whnf))
      | (refine CALL0.mk _ _ _ _ _ (leL_refl _) (h1 ..) rfl ?_; conv => whnf)
      | (refine CALLQ.mk _ _ _ (leL_refl _) (h1 ..) rfl ?_; conv => whnf)
    split
    rotate_left
    · rename_i h
      have h := of_decide_eq_false h
      simp only [ByteArray.size_append, bytesS_size, List.length_append, List.length_cons, List.length_nil] at h
      omega
    rename_i hN
    clear hN
    conv => whnf
    split
    rotate_left
    · rename_i h
      have h := of_decide_eq_false h
      simp only [ByteArray.size_append, bytesS_size, List.length_append, List.length_cons, List.length_nil] at h
      omega
    rename_i hN
    clear hN
    conv => whnf
    split
    rotate_left
    · rename_i h
      have h' : decide ((k : Int) < b.nd) = false := h
      simp at h' <;> omega
    conv => whnf
    repeat first
      | (show DRAW _ _ _ _ _; (first | refine .mk 0 (by decide +kernel) ?_ | refine .mk 1 (by decide +kernel) ?_ | refine .mk 2 (by decide +kernel) ?_ | refine .mk 3 (by decide +kernel) ?_ | refine .mk 4 (by decide +kernel) ?_ | refine .mk 5 (by decide +kernel) ?_ | refine .mk 6 (by decide +kernel) ?_ | refine .mk 7 (by decide +kernel) ?_ | refine .mk 8 (by decide +kernel) ?_ | refine .mk 9 (by decide +kernel) ?_ | refine .mk 10 (by decide +kernel) ?_ | refine .mk 11 (by decide +kernel) ?_ | refine .mk 12 (by decide +kernel) ?_ | refine .mk 13 (by decide +kernel) ?_ | refine .mk 14 (by decide +kernel) ?_ | refine .mk 15 (by decide +kernel) ?_ | refine .mk 16 (by decide +kernel) ?_ | refine .mk 17 (by decide +kernel) ?_ | refine .mk 18 (by decide +kernel) ?_ | refine .mk 19 (by decide +kernel) ?_ | refine .mk 20 (by decide +kernel) ?_ | refine .mk 21 (by decide +kernel) ?_ | refine .mk 22 (by decide +kernel) ?_ | refine .mk 23 (by decide +kernel) ?_ | refine .mk 24 (by decide +kernel) ?_ | refine .mk 25 (by decide +kernel) ?_ | refine .mk 26 (by decide +kernel) ?_ | refine .mk 27 (by decide +kernel) ?_ | refine .mk 28 (by decide +kernel) ?_ | refine .mk 29 (by decide +kernel) ?_ | refine .mk 30 (by decide +kernel) ?_ | refine .mk 31 (by decide +kernel) ?_ | refine .mk 32 (by decide +kernel) ?_ | refine .mk 33 (by decide +kernel) ?_ | refine .mk 34 (by decide +kernel) ?_ | refine .mk 35 (by decide +kernel) ?_ | refine .mk 36 (by decide +kernel) ?_ | refine .mk 37 (by decide +kernel) ?_ | refine .mk 38 (by decide +kernel) ?_ | refine .mk 39 (by decide +kernel) ?_ | refine .mk 40 (by decide +kernel) ?_ | refine .mk 41 (by decide +kernel) ?_); (conv => whnf))
      | (refine CALL0.mk _ _ _ _ _ (leL_refl _) (h2 ..) rfl ?_; conv => whnf)
      | (refine CALLQ.mk _ _ _ (leL_refl _) (h2 ..) rfl ?_; conv => whnf)
    split
    rotate_left
    · rename_i h
      have h := of_decide_eq_false h
      simp only [ByteArray.size_append, bytesS_size, List.length_append, List.length_cons, List.length_nil] at h
      omega
    rename_i hN
    clear hN
    conv => whnf
    refine ⟨⟨k + 1, hkn⟩, ⟨⟨leV_int ek, ?_, leV_refl _, trivial⟩, ⟨leL_refl _, trivial⟩, rfl, rfl⟩, (by show b.nl - (k + 1) < b.nl - k; omega)⟩
    show leV (.str (bytesS (polarW ++ numsS b.pol (2 * k)) ++ bytesS [32] ++ bytesS (Go.Lib.itoa (b.lf k)) ++ bytesS [32] ++ bytesS (Go.Lib.itoa (b.df k)))) (.str (bytesS (polarW ++ numsS b.pol (2 * k + 1 + 1))))
    simp only [bytesS_append, numsS, e1, e2]
    rw [show polarW ++ numsS b.pol (2 * k) ++ [32] ++ Go.Lib.itoa (b.lf k) ++ [32] ++ Go.Lib.itoa (b.df k) = polarW ++ (numsS b.pol (2 * k) ++ 32 :: Go.Lib.itoa (b.lf k) ++ 32 :: Go.Lib.itoa (b.df k)) by simp]
    exact leV_refl _
  · have q : decide ((k : Int) < b.nl) = false := decide_eq_false (by omega)
    have hkn : k = b.nl := by omega
    subst hkn
    have l3 := numsS_len (2 * b.nl) fun i hi => hpi i (by omega)
    conv => whnf
    split
    · rename_i h
      exact Bool.noConfusion ((q).symm.trans h)
    rename_i hN
    clear hN
    conv => whnf
    split
    rotate_left
    · rename_i h
      have h := of_decide_eq_false h
      simp only [ByteArray.size_append, bytesS_size, List.length_append, List.length_cons, List.length_nil] at h
      omega
    rename_i hN
    clear hN
    conv => whnf
    refine .mk (α := {k : Nat // k ≤ b.nr}) (fun k => ⟨[(5, .int .i64 k.1), (3, .str (bytesS (lineS polarW (2 * b.nl) b.pol ++ ringsS b k.1))), (1, .ptr 0 1 0)],
      [(1, [.lst none 1 b.nl fun i => [.int .i64 (b.lf i)], .lst none 1 b.nd fun i => [.int .i64 (b.df i)], .lst none 4 b.nr fun i => [.int .i64 (b.r1 i), .int .i64 (b.r2 i), .int .i64 (b.r3 i), .int .i64 (b.r4 i)]])], up⟩) (fun k => b.nr - k.1) ⟨0, Nat.zero_le _⟩ ⟨?_, ?_, rfl, rfl⟩ ?_
    · refine ⟨leV_refl _, ?_, leV_refl _, trivial⟩
      show leV (.str (bytesS (polarW ++ numsS b.pol (2 * b.nl)) ++ bytesS [10])) (.str (bytesS (lineS polarW (2 * b.nl) b.pol ++ [])))
      rw [List.append_nil, bytesS_append]
      exact leV_refl _
    · exact ⟨leL_refl _, trivial⟩
    rintro ⟨j, hj⟩
    have ej : w64 ((j : Int) + 1) = ((j + 1 : Nat) : Int) := by rw [w64, wrap_in] <;> omega
    by_cases hjn : j < b.nr
    · have q : decide ((j : Int) < b.nr) = true := decide_eq_true (by omega)
      have okj := ok j hjn
      have r1 := okj.r
      have r2 := okj.c
      have r3 := okj.t
      have r4 := okj.tip
      have h1 := fun up => c_rText (gl := gl) up (b.r1 j) (by omega) (by omega)
      have h2 := fun up => c_rText (gl := gl) up (b.r2 j) (by omega) (by omega)
      have h3 := fun up => c_rText (gl := gl) up (b.r3 j) (by omega) (by omega)
      have h4 := fun up => c_rText (gl := gl) up (b.r4 j) (by omega) (by omega)
      have l1 := itoa21 (b.r1 j) (by unfold i64; omega)
      have l2 := itoa21 (b.r2 j) (by unfold i64; omega)
      have l4 := itoa21 (b.r3 j) (by unfold i64; omega)
      have l5 := itoa21 (b.r4 j) (by unfold i64; omega)
      have hrl := ringsS_len j fun i hi j => ring_i64 (ok i (by omega)) j
      have hT : (lineS polarW (2 * b.nl) b.pol ++ ringsS b j).length ≤ 4096 := by
        simp only [List.length_append, lineS, List.length_cons, List.length_nil]
        omega
      simp only [List.length_append] at hT
      conv => whnf
      split
      rotate_left
      · rename_i h
        exact Bool.noConfusion ((q).symm.trans h)
      rename_i hN
      clear hN
      conv => whnf
      split
      rotate_left
      · rename_i h
        exact Bool.noConfusion ((q).symm.trans h)
      rename_i hN
      clear hN
      conv => whnf
      first
        | refine .mk 0 (by decide +kernel) ?_
        | refine .mk 1 (by decide +kernel) ?_
        | refine .mk 2 (by decide +kernel) ?_
        | refine .mk 3 (by decide +kernel) ?_
        | refine .mk 4 (by decide +kernel) ?_
        | refine .mk 5 (by decide +kernel) ?_
        | refine .mk 6 (by decide +kernel) ?_
        | refine .mk 7 (by decide +kernel) ?_
        | refine .mk 8 (by decide +kernel) ?_
        | refine .mk 9 (by decide +kernel) ?_
        | refine .mk 10 (by decide +kernel) ?_
        | refine .mk 11 (by decide +kernel) ?_
        | refine .mk 12 (by decide +kernel) ?_
        | refine .mk 13 (by decide +kernel) ?_
        | refine .mk 14 (by decide +kernel) ?_
        | refine .mk 15 (by decide +kernel) ?_
        | refine .mk 16 (by decide +kernel) ?_
        | refine .mk 17 (by decide +kernel) ?_
        | refine .mk 18 (by decide +kernel) ?_
        | refine .mk 19 (by decide +kernel) ?_
        | refine .mk 20 (by decide +kernel) ?_
        | refine .mk 21 (by decide +kernel) ?_
        | refine .mk 22 (by decide +kernel) ?_
        | refine .mk 23 (by decide +kernel) ?_
        | refine .mk 24 (by decide +kernel) ?_
        | refine .mk 25 (by decide +kernel) ?_
        | refine .mk 26 (by decide +kernel) ?_
        | refine .mk 27 (by decide +kernel) ?_
        | refine .mk 28 (by decide +kernel) ?_
        | refine .mk 29 (by decide +kernel) ?_
        | refine .mk 30 (by decide +kernel) ?_
        | refine .mk 31 (by decide +kernel) ?_
        | refine .mk 32 (by decide +kernel) ?_
        | refine .mk 33 (by decide +kernel) ?_
        | refine .mk 34 (by decide +kernel) ?_
        | refine .mk 35 (by decide +kernel) ?_
        | refine .mk 36 (by decide +kernel) ?_
        | refine .mk 37 (by decide +kernel) ?_
        | refine .mk 38 (by decide +kernel) ?_
        | refine .mk 39 (by decide +kernel) ?_
        | refine .mk 40 (by decide +kernel) ?_
        | refine .mk 41 (by decide +kernel) ?_
      conv => whnf
      split
      rotate_left
      · rename_i h
        have h := of_decide_eq_false h
        simp only [ByteArray.size_append, bytesS_size, List.length_append, List.length_cons, List.length_nil] at h
        omega
      rename_i hN
      clear hN
      conv => whnf
      repeat first
        | (show DRAW _ _ _ _ _; (first | refine .mk 0 (by decide +kernel) ?_ | refine .mk 1 (by decide +kernel) ?_ | refine .mk 2 (by decide +kernel) ?_ | refine .mk 3 (by decide +kernel) ?_ | refine .mk 4 (by decide +kernel) ?_ | refine .mk 5 (by decide +kernel) ?_ | refine .mk 6 (by decide +kernel) ?_ | refine .mk 7 (by decide +kernel) ?_ | refine .mk 8 (by decide +kernel) ?_ | refine .mk 9 (by decide +kernel) ?_ | refine .mk 10 (by decide +kernel) ?_ | refine .mk 11 (by decide +kernel) ?_ | refine .mk 12 (by decide +kernel) ?_ | refine .mk 13 (by decide +kernel) ?_ | refine .mk 14 (by decide +kernel) ?_ | refine .mk 15 (by decide +kernel) ?_ | refine .mk 16 (by decide +kernel) ?_ | refine .mk 17 (by decide +kernel) ?_ | refine .mk 18 (by decide +kernel) ?_ | refine .mk 19 (by decide +kernel) ?_ | refine .mk 20 (by decide +kernel) ?_ | refine .mk 21 (by decide +kernel) ?_ | refine .mk 22 (by decide +kernel) ?_ | refine .mk 23 (by decide +kernel) ?_ | refine .mk 24 (by decide +kernel) ?_ | refine .mk 25 (by decide +kernel) ?_ | refine .mk 26 (by decide +kernel) ?_ | refine .mk 27 (by decide +kernel) ?_ | refine .mk 28 (by decide +kernel) ?_ | refine .mk 29 (by decide +kernel) ?_ | refine .mk 30 (by decide +kernel) ?_ | refine .mk 31 (by decide +kernel) ?_ | refine .mk 32 (by decide +kernel) ?_ | refine .mk 33 (by decide +kernel) ?_ | refine .mk 34 (by decide +kernel) ?_ | refine .mk 35 (by decide +kernel) ?_ | refine .mk 36 (by decide +kernel) ?_ | refine .mk 37 (by decide +kernel) ?_ | refine .mk 38 (by decide +kernel) ?_ | refine .mk 39 (by decide +kernel) ?_ | refine .mk 40 (by decide +kernel) ?_ | refine .mk 41 (by decide +kernel) ?_); (conv => whnf))
        | (refine CALL0.mk _ _ _ _ _ (leL_refl _) (h1 ..) rfl ?_; conv => whnf)
        | (refine CALLQ.mk _ _ _ (leL_refl _) (h1 ..) rfl ?_; conv => whnf)
      split
      rotate_left
      · rename_i h
        have h := of_decide_eq_false h
        simp only [ByteArray.size_append, bytesS_size, List.length_append, List.length_cons, List.length_nil] at h
        omega
      rename_i hN
      clear hN
      conv => whnf
      split
      rotate_left
      · rename_i h
        have h := of_decide_eq_false h
        simp only [ByteArray.size_append, bytesS_size, List.length_append, List.length_cons, List.length_nil] at h
        omega
      rename_i hN
      clear hN
      conv => whnf
      repeat first
        | (show DRAW _ _ _ _ _; (first | refine .mk 0 (by decide +kernel) ?_ | refine .mk 1 (by decide +kernel) ?_ | refine .mk 2 (by decide +kernel) ?_ | refine .mk 3 (by decide +kernel) ?_ | refine .mk 4 (by decide +kernel) ?_ | refine .mk 5 (by decide +kernel) ?_ | refine .mk 6 (by decide +kernel) ?_ | refine .mk 7 (by decide +kernel) ?_ | refine .mk 8 (by decide +kernel) ?_ | refine .mk 9 (by decide +kernel) ?_ | refine .mk 10 (by decide +kernel) ?_ | refine .mk 11 (by decide +kernel) ?_ | refine .mk 12 (by decide +kernel) ?_ | refine .mk 13 (by decide +kernel) ?_ | refine .mk 14 (by decide +kernel) ?_ | refine .mk 15 (by decide +kernel) ?_ | refine .mk 16 (by decide +kernel) ?_ | refine .mk 17 (by decide +kernel) ?_ | refine .mk 18 (by decide +kernel) ?_ | refine .mk 19 (by decide +kernel) ?_ | refine .mk 20 (by decide +kernel) ?_ | refine .mk 21 (by decide +kernel) ?_ | refine .mk 22 (by decide +kernel) ?_ | refine .mk 23 (by decide +kernel) ?_ | refine .mk 24 (by decide +kernel) ?_ | refine .mk 25 (by decide +kernel) ?_ | refine .mk 26 (by decide +kernel) ?_ | refine .mk 27 (by decide +kernel) ?_ | refine .mk 28 (by decide +kernel) ?_ | refine .mk 29 (by decide +kernel) ?_ | refine .mk 30 (by decide +kernel) ?_ | refine .mk 31 (by decide +kernel) ?_ | refine .mk 32 (by decide +kernel) ?_ | refine .mk 33 (by decide +kernel) ?_ | refine .mk 34 (by decide +kernel) ?_ | refine .mk 35 (by decide +kernel) ?_ | refine .mk 36 (by decide +kernel) ?_ | refine .mk 37 (by decide +kernel) ?_ | refine .mk 38 (by decide +kernel) ?_ | refine .mk 39 (by decide +kernel) ?_ | refine .mk 40 (by decide +kernel) ?_ | refine .mk 41 (by decide +kernel) ?_); (conv => whnf))
        | (refine CALL0.mk _ _ _ _ _ (leL_refl _) (h2 ..) rfl ?_; conv => whnf)
        | (refine CALLQ.mk _ _ _ (leL_refl _) (h2 ..) rfl ?_; conv => whnf)
      split
      rotate_left
      · rename_i h
        have h := of_decide_eq_false h
        simp only [ByteArray.size_append, bytesS_size, List.length_append, List.length_cons, List.length_nil] at h
        omega
      rename_i hN
      clear hN
      conv => whnf
      split
      rotate_left
      · rename_i h
        have h := of_decide_eq_false h
        simp only [ByteArray.size_append, bytesS_size, List.length_append, List.length_cons, List.length_nil] at h
        omega
      rename_i hN
      clear hN
      conv => whnf
      repeat first
        | (show DRAW _ _ _ _ _; (first | refine .mk 0 (by decide +kernel) ?_ | refine .mk 1 (by decide +kernel) ?_ | refine .mk 2 (by decide +kernel) ?_ | refine .mk 3 (by decide +kernel) ?_ | refine .mk 4 (by decide +kernel) ?_ | refine .mk 5 (by decide +kernel) ?_ | refine .mk 6 (by decide +kernel) ?_ | refine .mk 7 (by decide +kernel) ?_ | refine .mk 8 (by decide +kernel) ?_ | refine .mk 9 (by decide +kernel) ?_ | refine .mk 10 (by decide +kernel) ?_ | refine .mk 11 (by decide +kernel) ?_ | refine .mk 12 (by decide +kernel) ?_ | refine .mk 13 (by decide +kernel) ?_ | refine .mk 14 (by decide +kernel) ?_ | refine .mk 15 (by decide +kernel) ?_ | refine .mk 16 (by decide +kernel) ?_ | refine .mk 17 (by decide +kernel) ?_ | refine .mk 18 (by decide +kernel) ?_ | refine .mk 19 (by decide +kernel) ?_ | refine .mk 20 (by decide +kernel) ?_ | refine .mk 21 (by decide +kernel) ?_ | refine .mk 22 (by decide +kernel) ?_ | refine .mk 23 (by decide +kernel) ?_ | refine .mk 24 (by decide +kernel) ?_ | refine .mk 25 (by decide +kernel) ?_ | refine .mk 26 (by decide +kernel) ?_ | refine .mk 27 (by decide +kernel) ?_ | refine .mk 28 (by decide +kernel) ?_ | refine .mk 29 (by decide +kernel) ?_ | refine .mk 30 (by decide +kernel) ?_ | refine .mk 31 (by decide +kernel) ?_ | refine .mk 32 (by decide +kernel) ?_ | refine .mk 33 (by decide +kernel) ?_ | refine .mk 34 (by decide +kernel) ?_ | refine .mk 35 (by decide +kernel) ?_ | refine .mk 36 (by decide +kernel) ?_ | refine .mk 37 (by decide +kernel) ?_ | refine .mk 38 (by decide +kernel) ?_ | refine .mk 39 (by decide +kernel) ?_ | refine .mk 40 (by decide +kernel) ?_ | refine .mk 41 (by decide +kernel) ?_); (conv => whnf))
        | (refine CALL0.mk _ _ _ _ _ (leL_refl _) (h3 ..) rfl ?_; conv => whnf)
        | (refine CALLQ.mk _ _ _ (leL_refl _) (h3 ..) rfl ?_; conv => whnf)
      split
      rotate_left
      · rename_i h
        have h := of_decide_eq_false h
        simp only [ByteArray.size_append, bytesS_size, List.length_append, List.length_cons, List.length_nil] at h
        omega
      rename_i hN
      clear hN
      conv => whnf
      split
      rotate_left
      · rename_i h
        have h := of_decide_eq_false h
        simp only [ByteArray.size_append, bytesS_size, List.length_append, List.length_cons, List.length_nil] at h
        omega
      rename_i hN
      clear hN
      conv => whnf
      repeat first
        | (show DRAW _ _ _ _ _; (first | refine .mk 0 (by decide +kernel) ?_ | refine .mk 1 (by decide +kernel) ?_ | refine .mk 2 (by decide +kernel) ?_ | refine .mk 3 (by decide +kernel) ?_ | refine .mk 4 (by decide +kernel) ?_ | refine .mk 5 (by decide +kernel) ?_ | refine .mk 6 (by decide +kernel) ?_ | refine .mk 7 (by decide +kernel) ?_ | refine .mk 8 (by decide +kernel) ?_ | refine .mk 9 (by decide +kernel) ?_ | refine .mk 10 (by decide +kernel) ?_ | refine .mk 11 (by decide +kernel) ?_ | refine .mk 12 (by decide +kernel) ?_ | refine .mk 13 (by decide +kernel) ?_ | refine .mk 14 (by decide +kernel) ?_ | refine .mk 15 (by decide +kernel) ?_ | refine .mk 16 (by decide +kernel) ?_ | refine .mk 17 (by decide +kernel) ?_ | refine .mk 18 (by decide +kernel) ?_ | refine .mk 19 (by decide +kernel) ?_ | refine .mk 20 (by decide +kernel) ?_ | refine .mk 21 (by decide +kernel) ?_ | refine .mk 22 (by decide +kernel) ?_ | refine .mk 23 (by decide +kernel) ?_ | refine .mk 24 (by decide +kernel) ?_ | refine .mk 25 (by decide +kernel) ?_ | refine .mk 26 (by decide +kernel) ?_ | refine .mk 27 (by decide +kernel) ?_ | refine .mk 28 (by decide +kernel) ?_ | refine .mk 29 (by decide +kernel) ?_ | refine .mk 30 (by decide +kernel) ?_ | refine .mk 31 (by decide +kernel) ?_ | refine .mk 32 (by decide +kernel) ?_ | refine .mk 33 (by decide +kernel) ?_ | refine .mk 34 (by decide +kernel) ?_ | refine .mk 35 (by decide +kernel) ?_ | refine .mk 36 (by decide +kernel) ?_ | refine .mk 37 (by decide +kernel) ?_ | refine .mk 38 (by decide +kernel) ?_ | refine .mk 39 (by decide +kernel) ?_ | refine .mk 40 (by decide +kernel) ?_ | refine .mk 41 (by decide +kernel) ?_); (conv => whnf))
        | (refine CALL0.mk _ _ _ _ _ (leL_refl _) (h4 ..) rfl ?_; conv => whnf)
        | (refine CALLQ.mk _ _ _ (leL_refl _) (h4 ..) rfl ?_; conv => whnf)
      split
      rotate_left
      · rename_i h
        have h := of_decide_eq_false h
        simp only [ByteArray.size_append, bytesS_size, List.length_append, List.length_cons, List.length_nil] at h
        omega
      rename_i hN
      clear hN
      conv => whnf
      split
      rotate_left
      · rename_i h
        have h := of_decide_eq_false h
        simp only [ByteArray.size_append, bytesS_size, List.length_append, List.length_cons, List.length_nil] at h
        omega
      rename_i hN
      clear hN
      conv => whnf
      refine ⟨⟨j + 1, hjn⟩, ⟨⟨leV_int ej, ?_, leV_refl _, trivial⟩, ⟨leL_refl _, trivial⟩, rfl, rfl⟩, (by show b.nr - (j + 1) < b.nr - j; omega)⟩
      show leV (.str (bytesS (lineS polarW (2 * b.nl) b.pol ++ ringsS b j) ++ bytesS [114, 105, 110, 103, 32] ++ bytesS (Go.Lib.itoa (b.r1 j)) ++ bytesS [32] ++ bytesS (Go.Lib.itoa (b.r2 j)) ++ bytesS [32] ++ bytesS (Go.Lib.itoa (b.r3 j)) ++ bytesS [32] ++ bytesS (Go.Lib.itoa (b.r4 j)) ++ bytesS [10])) (.str (bytesS (lineS polarW (2 * b.nl) b.pol ++ (ringsS b j ++ lineS ringW 4 (b.ring j)))))
      simp only [bytesS_append]
      have e : lineS ringW 4 (b.ring j) = [114, 105, 110, 103, 32] ++ Go.Lib.itoa (b.r1 j) ++ [32] ++ Go.Lib.itoa (b.r2 j) ++ [32] ++ Go.Lib.itoa (b.r3 j) ++ [32] ++ Go.Lib.itoa (b.r4 j) ++ [10] := by
        unfold lineS
        simp only [numsS]
        show ringW ++ ([] ++ 32 :: Go.Lib.itoa (b.r1 j) ++ 32 :: Go.Lib.itoa (b.r2 j) ++ 32 :: Go.Lib.itoa (b.r3 j) ++ 32 :: Go.Lib.itoa (b.r4 j)) ++ [10] = _
        simp
      rw [e]
      simp only [List.append_assoc]
      exact leV_refl _
    · have q : decide ((j : Int) < b.nr) = false := decide_eq_false (by omega)
      have hjn : j = b.nr := by omega
      subst hjn
      conv => whnf
      split
      · rename_i h
        exact Bool.noConfusion ((q).symm.trans h)
      rename_i hN
      clear hN
      conv => whnf
      exact ⟨rfl, rfl⟩
end Go.Proofs.YtllmejkmogepjaaDoor.Ix

/-
  Lb1: RotorBlades: the law.
-/
namespace Go.Proofs.YtllmejkmogepjaaDoor.Ix
open Go.Proofs
set_option maxRecDepth 100000
set_option linter.unusedVariables false
set_option linter.unusedSimpArgs false
variable {gl : Nat → IV}

theorem blades_no (up : List Ces) (hr : gl g_rotor_roots = rootsI) (hp : gl g_internal_strconv_uint64pow10 = powI) (b : Bl) (f : Fl) (hs : b.short = false) :
    Cs gl n_nacellelaw03_RotorBlades up [b.iv, f.iv] (.bool true) up := by
  refine mk h_nacellelaw03_RotorBlades rfl rfl ?_
  have hS := fun up => c_Short (gl := gl) up b
  rw [hs] at hS
  have hA := fun up => c_awake (gl := gl) up hr hp
  conv => whnf
  repeat first
    | (show DRAW _ _ _ _ _; (first | refine .mk 0 (by decide +kernel) ?_ | refine .mk 1 (by decide +kernel) ?_ | refine .mk 2 (by decide +kernel) ?_ | refine .mk 3 (by decide +kernel) ?_ | refine .mk 4 (by decide +kernel) ?_ | refine .mk 5 (by decide +kernel) ?_ | refine .mk 6 (by decide +kernel) ?_ | refine .mk 7 (by decide +kernel) ?_ | refine .mk 8 (by decide +kernel) ?_ | refine .mk 9 (by decide +kernel) ?_ | refine .mk 10 (by decide +kernel) ?_ | refine .mk 11 (by decide +kernel) ?_ | refine .mk 12 (by decide +kernel) ?_ | refine .mk 13 (by decide +kernel) ?_ | refine .mk 14 (by decide +kernel) ?_ | refine .mk 15 (by decide +kernel) ?_ | refine .mk 16 (by decide +kernel) ?_ | refine .mk 17 (by decide +kernel) ?_ | refine .mk 18 (by decide +kernel) ?_ | refine .mk 19 (by decide +kernel) ?_ | refine .mk 20 (by decide +kernel) ?_ | refine .mk 21 (by decide +kernel) ?_ | refine .mk 22 (by decide +kernel) ?_ | refine .mk 23 (by decide +kernel) ?_ | refine .mk 24 (by decide +kernel) ?_ | refine .mk 25 (by decide +kernel) ?_ | refine .mk 26 (by decide +kernel) ?_ | refine .mk 27 (by decide +kernel) ?_ | refine .mk 28 (by decide +kernel) ?_ | refine .mk 29 (by decide +kernel) ?_ | refine .mk 30 (by decide +kernel) ?_ | refine .mk 31 (by decide +kernel) ?_ | refine .mk 32 (by decide +kernel) ?_ | refine .mk 33 (by decide +kernel) ?_ | refine .mk 34 (by decide +kernel) ?_ | refine .mk 35 (by decide +kernel) ?_ | refine .mk 36 (by decide +kernel) ?_ | refine .mk 37 (by decide +kernel) ?_ | refine .mk 38 (by decide +kernel) ?_ | refine .mk 39 (by decide +kernel) ?_ | refine .mk 40 (by decide +kernel) ?_ | refine .mk 41 (by decide +kernel) ?_); (conv => whnf))
    | (refine CALL0.mk _ _ _ _ _ (leL_refl _) (hA ..) rfl ?_; conv => whnf)
    | (refine CALLQ.mk _ _ _ (leL_refl _) (hA ..) rfl ?_; conv => whnf)
    | (refine CALL0.mk _ _ _ _ _ (leL_refl _) (hS ..) rfl ?_; conv => whnf)
    | (refine CALLQ.mk _ _ _ (leL_refl _) (hS ..) rfl ?_; conv => whnf)
  exact ⟨rfl, rfl⟩

/-- What is read behind each call. -/
def lvBlades : List (Nat × List Nat) := [(9, [2, 3, 4, 5, 6, 7, 8, 9, 10, 11]), (13, [2, 3, 4, 5, 6, 7, 8, 11, 13]), (16, [2, 3, 4, 5, 6, 7, 8, 16]), (19, [2, 3, 4, 5, 6, 7, 8, 19]), (20, [2, 3, 4, 5, 6, 7, 8, 20]), (24, [2, 3, 4, 5, 6, 7, 8, 24]), (28, [2, 3, 4, 5, 6, 7, 8, 28]), (30, [2, 3, 4, 5, 6, 7, 8, 30]), (32, [2, 3, 4, 5, 6, 7, 8, 32]), (35, [2, 3, 4, 5, 6, 7, 8, 32, 35]), (39, [3, 4, 5, 6, 7, 8, 37, 39]), (40, [3, 4, 5, 6, 7, 8, 37, 40]), (46, [3, 4, 5, 6, 7, 8, 44, 46]), (48, [4, 5, 6, 7, 8, 44, 46, 48])]
set_option maxHeartbeats 8000000 in
theorem blades_yes (up : List Ces) (hr : gl g_rotor_roots = rootsI) (hp : gl g_internal_strconv_uint64pow10 = powI) (b : Bl) (f : Fl) (hs : b.short = true) :
    Cs gl n_nacellelaw03_RotorBlades up [b.iv, f.iv] (.bool true) up := by
  obtain ⟨hl, hd, hn⟩ := short_le hs
  have hS := fun up => c_Short (gl := gl) up b
  rw [hs] at hS
  have hA := fun up => c_awake (gl := gl) up hr hp
  have hb := fun up => c_blade (gl := gl) up b hl hd hn
  have hP := fun up => c_Print (gl := gl) up hp b
  unfold printR at hP
  have hE := fun up => c_rCheckBlade (gl := gl) up b
  have hE2 := fun up => c_CheckBlade (gl := gl) up b.nl b.nd b.nr b.lf b.df b.r1 b.r2 b.r3 b.r4
  have hPo := fun up => c_CheckPolar (gl := gl) up b.nl b.nd b.lf b.df
  have hPr := fun up => c_rCheckPolar (gl := gl) up b.nl b.nd b.lf b.df
  have hFo := fun up => c_CheckFlow' (gl := gl) up f.w f.s f.p
  have hFr := fun up => c_rCheckFlow (gl := gl) up f.w f.s f.p
  obtain ⟨E, hEE⟩ : ∃ E, E = b.err := ⟨_, rfl⟩
  have hEE' : bladeS b.nl b.lf b.nd b.df b.nr b.r1 b.r2 b.r3 b.r4 = E := hEE.symm
  rw [← hEE] at hP hE
  rw [hEE'] at hE2
  by_cases zE : E = 0
  · have hT := fun up => c_rPrint (gl := gl) up b (hEE ▸ zE)
    rw [zE] at hP hE hE2
    simp only [bne_self_eq_false, cond_false] at hP
    refine mk h_nacellelaw03_RotorBlades rfl rfl ?_
    conv => whnf
    repeat first
      | (show DRAW _ _ _ _ _; (first | refine .mk 0 (by decide +kernel) ?_ | refine .mk 1 (by decide +kernel) ?_ | refine .mk 2 (by decide +kernel) ?_ | refine .mk 3 (by decide +kernel) ?_ | refine .mk 4 (by decide +kernel) ?_ | refine .mk 5 (by decide +kernel) ?_ | refine .mk 6 (by decide +kernel) ?_ | refine .mk 7 (by decide +kernel) ?_ | refine .mk 8 (by decide +kernel) ?_ | refine .mk 9 (by decide +kernel) ?_ | refine .mk 10 (by decide +kernel) ?_ | refine .mk 11 (by decide +kernel) ?_ | refine .mk 12 (by decide +kernel) ?_ | refine .mk 13 (by decide +kernel) ?_ | refine .mk 14 (by decide +kernel) ?_ | refine .mk 15 (by decide +kernel) ?_ | refine .mk 16 (by decide +kernel) ?_ | refine .mk 17 (by decide +kernel) ?_ | refine .mk 18 (by decide +kernel) ?_ | refine .mk 19 (by decide +kernel) ?_ | refine .mk 20 (by decide +kernel) ?_ | refine .mk 21 (by decide +kernel) ?_ | refine .mk 22 (by decide +kernel) ?_ | refine .mk 23 (by decide +kernel) ?_ | refine .mk 24 (by decide +kernel) ?_ | refine .mk 25 (by decide +kernel) ?_ | refine .mk 26 (by decide +kernel) ?_ | refine .mk 27 (by decide +kernel) ?_ | refine .mk 28 (by decide +kernel) ?_ | refine .mk 29 (by decide +kernel) ?_ | refine .mk 30 (by decide +kernel) ?_ | refine .mk 31 (by decide +kernel) ?_ | refine .mk 32 (by decide +kernel) ?_ | refine .mk 33 (by decide +kernel) ?_ | refine .mk 34 (by decide +kernel) ?_ | refine .mk 35 (by decide +kernel) ?_ | refine .mk 36 (by decide +kernel) ?_ | refine .mk 37 (by decide +kernel) ?_ | refine .mk 38 (by decide +kernel) ?_ | refine .mk 39 (by decide +kernel) ?_ | refine .mk 40 (by decide +kernel) ?_ | refine .mk 41 (by decide +kernel) ?_); (conv => whnf))
      | (refine CALL0.cutBy lvBlades _ _ _ _ _ (leL_refl _) (hA ..) rfl ?_; conv => whnf)
      | (refine CALL0.mk _ _ _ _ _ (leL_refl _) (hA ..) rfl ?_; conv => whnf)
      | (refine CALLQ.mk _ _ _ (leL_refl _) (hA ..) rfl ?_; conv => whnf)
      | (refine CALL0.cutBy lvBlades _ _ _ _ _ (leL_refl _) (hS ..) rfl ?_; conv => whnf)
      | (refine CALL0.mk _ _ _ _ _ (leL_refl _) (hS ..) rfl ?_; conv => whnf)
      | (refine CALLQ.mk _ _ _ (leL_refl _) (hS ..) rfl ?_; conv => whnf)
      | (refine CALL0.cutBy lvBlades _ _ _ _ _ (leL_refl _) (hb ..) rfl ?_; conv => whnf)
      | (refine CALL0.mk _ _ _ _ _ (leL_refl _) (hb ..) rfl ?_; conv => whnf)
      | (refine CALLQ.mk _ _ _ (leL_refl _) (hb ..) rfl ?_; conv => whnf)
      | (refine CALL0.cutBy lvBlades _ _ _ _ _ (leL_refl _) (hP ..) rfl ?_; conv => whnf)
      | (refine CALL0.mk _ _ _ _ _ (leL_refl _) (hP ..) rfl ?_; conv => whnf)
      | (refine CALLQ.mk _ _ _ (leL_refl _) (hP ..) rfl ?_; conv => whnf)
      | (refine CALL0.cutBy lvBlades _ _ _ _ _ (leL_refl _) (hE ..) rfl ?_; conv => whnf)
      | (refine CALL0.mk _ _ _ _ _ (leL_refl _) (hE ..) rfl ?_; conv => whnf)
      | (refine CALLQ.mk _ _ _ (leL_refl _) (hE ..) rfl ?_; conv => whnf)
    repeat first
      | (show DRAW _ _ _ _ _; (first | refine .mk 0 (by decide +kernel) ?_ | refine .mk 1 (by decide +kernel) ?_ | refine .mk 2 (by decide +kernel) ?_ | refine .mk 3 (by decide +kernel) ?_ | refine .mk 4 (by decide +kernel) ?_ | refine .mk 5 (by decide +kernel) ?_ | refine .mk 6 (by decide +kernel) ?_ | refine .mk 7 (by decide +kernel) ?_ | refine .mk 8 (by decide +kernel) ?_ | refine .mk 9 (by decide +kernel) ?_ | refine .mk 10 (by decide +kernel) ?_ | refine .mk 11 (by decide +kernel) ?_ | refine .mk 12 (by decide +kernel) ?_ | refine .mk 13 (by decide +kernel) ?_ | refine .mk 14 (by decide +kernel) ?_ | refine .mk 15 (by decide +kernel) ?_ | refine .mk 16 (by decide +kernel) ?_ | refine .mk 17 (by decide +kernel) ?_ | refine .mk 18 (by decide +kernel) ?_ | refine .mk 19 (by decide +kernel) ?_ | refine .mk 20 (by decide +kernel) ?_ | refine .mk 21 (by decide +kernel) ?_ | refine .mk 22 (by decide +kernel) ?_ | refine .mk 23 (by decide +kernel) ?_ | refine .mk 24 (by decide +kernel) ?_ | refine .mk 25 (by decide +kernel) ?_ | refine .mk 26 (by decide +kernel) ?_ | refine .mk 27 (by decide +kernel) ?_ | refine .mk 28 (by decide +kernel) ?_ | refine .mk 29 (by decide +kernel) ?_ | refine .mk 30 (by decide +kernel) ?_ | refine .mk 31 (by decide +kernel) ?_ | refine .mk 32 (by decide +kernel) ?_ | refine .mk 33 (by decide +kernel) ?_ | refine .mk 34 (by decide +kernel) ?_ | refine .mk 35 (by decide +kernel) ?_ | refine .mk 36 (by decide +kernel) ?_ | refine .mk 37 (by decide +kernel) ?_ | refine .mk 38 (by decide +kernel) ?_ | refine .mk 39 (by decide +kernel) ?_ | refine .mk 40 (by decide +kernel) ?_ | refine .mk 41 (by decide +kernel) ?_); (conv => whnf))
      | (refine CALL0.cutBy lvBlades _ _ _ _ _ (leL_refl _) (hT ..) rfl ?_; conv => whnf)
      | (refine CALL0.mk _ _ _ _ _ (leL_refl _) (hT ..) rfl ?_; conv => whnf)
      | (refine CALLQ.mk _ _ _ (leL_refl _) (hT ..) rfl ?_; conv => whnf)
      | (refine CALL0.cutBy lvBlades _ _ _ _ _ (leL_refl _) (hb ..) rfl ?_; conv => whnf)
      | (refine CALL0.mk _ _ _ _ _ (leL_refl _) (hb ..) rfl ?_; conv => whnf)
      | (refine CALLQ.mk _ _ _ (leL_refl _) (hb ..) rfl ?_; conv => whnf)
      | (refine CALL0.cutBy lvBlades _ _ _ _ _ (leL_refl _) (hPo ..) rfl ?_; conv => whnf)
      | (refine CALL0.mk _ _ _ _ _ (leL_refl _) (hPo ..) rfl ?_; conv => whnf)
      | (refine CALLQ.mk _ _ _ (leL_refl _) (hPo ..) rfl ?_; conv => whnf)
      | (refine CALL0.cutBy lvBlades _ _ _ _ _ (leL_refl _) (hPr ..) rfl ?_; conv => whnf)
      | (refine CALL0.mk _ _ _ _ _ (leL_refl _) (hPr ..) rfl ?_; conv => whnf)
      | (refine CALLQ.mk _ _ _ (leL_refl _) (hPr ..) rfl ?_; conv => whnf)
    split
    rotate_left
    · rename_i h
      exact absurd h (by simp)
    conv => whnf
    repeat first
      | (show DRAW _ _ _ _ _; (first | refine .mk 0 (by decide +kernel) ?_ | refine .mk 1 (by decide +kernel) ?_ | refine .mk 2 (by decide +kernel) ?_ | refine .mk 3 (by decide +kernel) ?_ | refine .mk 4 (by decide +kernel) ?_ | refine .mk 5 (by decide +kernel) ?_ | refine .mk 6 (by decide +kernel) ?_ | refine .mk 7 (by decide +kernel) ?_ | refine .mk 8 (by decide +kernel) ?_ | refine .mk 9 (by decide +kernel) ?_ | refine .mk 10 (by decide +kernel) ?_ | refine .mk 11 (by decide +kernel) ?_ | refine .mk 12 (by decide +kernel) ?_ | refine .mk 13 (by decide +kernel) ?_ | refine .mk 14 (by decide +kernel) ?_ | refine .mk 15 (by decide +kernel) ?_ | refine .mk 16 (by decide +kernel) ?_ | refine .mk 17 (by decide +kernel) ?_ | refine .mk 18 (by decide +kernel) ?_ | refine .mk 19 (by decide +kernel) ?_ | refine .mk 20 (by decide +kernel) ?_ | refine .mk 21 (by decide +kernel) ?_ | refine .mk 22 (by decide +kernel) ?_ | refine .mk 23 (by decide +kernel) ?_ | refine .mk 24 (by decide +kernel) ?_ | refine .mk 25 (by decide +kernel) ?_ | refine .mk 26 (by decide +kernel) ?_ | refine .mk 27 (by decide +kernel) ?_ | refine .mk 28 (by decide +kernel) ?_ | refine .mk 29 (by decide +kernel) ?_ | refine .mk 30 (by decide +kernel) ?_ | refine .mk 31 (by decide +kernel) ?_ | refine .mk 32 (by decide +kernel) ?_ | refine .mk 33 (by decide +kernel) ?_ | refine .mk 34 (by decide +kernel) ?_ | refine .mk 35 (by decide +kernel) ?_ | refine .mk 36 (by decide +kernel) ?_ | refine .mk 37 (by decide +kernel) ?_ | refine .mk 38 (by decide +kernel) ?_ | refine .mk 39 (by decide +kernel) ?_ | refine .mk 40 (by decide +kernel) ?_ | refine .mk 41 (by decide +kernel) ?_); (conv => whnf))
      | (refine CALL0.cutBy lvBlades _ _ _ _ _ (leL_refl _) (hb ..) rfl ?_; conv => whnf)
      | (refine CALL0.mk _ _ _ _ _ (leL_refl _) (hb ..) rfl ?_; conv => whnf)
      | (refine CALLQ.mk _ _ _ (leL_refl _) (hb ..) rfl ?_; conv => whnf)
      | (refine CALL0.cutBy lvBlades _ _ _ _ _ (leL_refl _) (hE2 ..) rfl ?_; conv => whnf)
      | (refine CALL0.mk _ _ _ _ _ (leL_refl _) (hE2 ..) rfl ?_; conv => whnf)
      | (refine CALLQ.mk _ _ _ (leL_refl _) (hE2 ..) rfl ?_; conv => whnf)
      | (refine CALL0.cutBy lvBlades _ _ _ _ _ (leL_refl _) (hFo ..) rfl ?_; conv => whnf)
      | (refine CALL0.mk _ _ _ _ _ (leL_refl _) (hFo ..) rfl ?_; conv => whnf)
      | (refine CALLQ.mk _ _ _ (leL_refl _) (hFo ..) rfl ?_; conv => whnf)
      | (refine CALL0.cutBy lvBlades _ _ _ _ _ (leL_refl _) (hFr ..) rfl ?_; conv => whnf)
      | (refine CALL0.mk _ _ _ _ _ (leL_refl _) (hFr ..) rfl ?_; conv => whnf)
      | (refine CALLQ.mk _ _ _ (leL_refl _) (hFr ..) rfl ?_; conv => whnf)
    repeat first
      | exact ⟨rfl, rfl⟩
      | (split; rotate_left; (rename_i hz; exact absurd hz (by simp)); (conv => whnf))
      | exact ⟨by simp, rfl⟩
  · have hz : (E != 0) = true := by simpa using zE
    rw [hz] at hP
    simp only [cond_true] at hP
    obtain ⟨s0, hs0⟩ : ∃ s0, s0 = bytesS [] := ⟨_, rfl⟩
    rw [← hs0] at hP
    refine mk h_nacellelaw03_RotorBlades rfl rfl ?_
    conv => whnf
    repeat first
      | (show DRAW _ _ _ _ _; (first | refine .mk 0 (by decide +kernel) ?_ | refine .mk 1 (by decide +kernel) ?_ | refine .mk 2 (by decide +kernel) ?_ | refine .mk 3 (by decide +kernel) ?_ | refine .mk 4 (by decide +kernel) ?_ | refine .mk 5 (by decide +kernel) ?_ | refine .mk 6 (by decide +kernel) ?_ | refine .mk 7 (by decide +kernel) ?_ | refine .mk 8 (by decide +kernel) ?_ | refine .mk 9 (by decide +kernel) ?_ | refine .mk 10 (by decide +kernel) ?_ | refine .mk 11 (by decide +kernel) ?_ | refine .mk 12 (by decide +kernel) ?_ | refine .mk 13 (by decide +kernel) ?_ | refine .mk 14 (by decide +kernel) ?_ | refine .mk 15 (by decide +kernel) ?_ | refine .mk 16 (by decide +kernel) ?_ | refine .mk 17 (by decide +kernel) ?_ | refine .mk 18 (by decide +kernel) ?_ | refine .mk 19 (by decide +kernel) ?_ | refine .mk 20 (by decide +kernel) ?_ | refine .mk 21 (by decide +kernel) ?_ | refine .mk 22 (by decide +kernel) ?_ | refine .mk 23 (by decide +kernel) ?_ | refine .mk 24 (by decide +kernel) ?_ | refine .mk 25 (by decide +kernel) ?_ | refine .mk 26 (by decide +kernel) ?_ | refine .mk 27 (by decide +kernel) ?_ | refine .mk 28 (by decide +kernel) ?_ | refine .mk 29 (by decide +kernel) ?_ | refine .mk 30 (by decide +kernel) ?_ | refine .mk 31 (by decide +kernel) ?_ | refine .mk 32 (by decide +kernel) ?_ | refine .mk 33 (by decide +kernel) ?_ | refine .mk 34 (by decide +kernel) ?_ | refine .mk 35 (by decide +kernel) ?_ | refine .mk 36 (by decide +kernel) ?_ | refine .mk 37 (by decide +kernel) ?_ | refine .mk 38 (by decide +kernel) ?_ | refine .mk 39 (by decide +kernel) ?_ | refine .mk 40 (by decide +kernel) ?_ | refine .mk 41 (by decide +kernel) ?_); (conv => whnf))
      | (refine CALL0.cutBy lvBlades _ _ _ _ _ (leL_refl _) (hA ..) rfl ?_; conv => whnf)
      | (refine CALL0.mk _ _ _ _ _ (leL_refl _) (hA ..) rfl ?_; conv => whnf)
      | (refine CALLQ.mk _ _ _ (leL_refl _) (hA ..) rfl ?_; conv => whnf)
      | (refine CALL0.cutBy lvBlades _ _ _ _ _ (leL_refl _) (hS ..) rfl ?_; conv => whnf)
      | (refine CALL0.mk _ _ _ _ _ (leL_refl _) (hS ..) rfl ?_; conv => whnf)
      | (refine CALLQ.mk _ _ _ (leL_refl _) (hS ..) rfl ?_; conv => whnf)
      | (refine CALL0.cutBy lvBlades _ _ _ _ _ (leL_refl _) (hb ..) rfl ?_; conv => whnf)
      | (refine CALL0.mk _ _ _ _ _ (leL_refl _) (hb ..) rfl ?_; conv => whnf)
      | (refine CALLQ.mk _ _ _ (leL_refl _) (hb ..) rfl ?_; conv => whnf)
      | (refine CALL0.cutBy lvBlades _ _ _ _ _ (leL_refl _) (hP ..) rfl ?_; conv => whnf)
      | (refine CALL0.mk _ _ _ _ _ (leL_refl _) (hP ..) rfl ?_; conv => whnf)
      | (refine CALLQ.mk _ _ _ (leL_refl _) (hP ..) rfl ?_; conv => whnf)
      | (refine CALL0.cutBy lvBlades _ _ _ _ _ (leL_refl _) (hE ..) rfl ?_; conv => whnf)
      | (refine CALL0.mk _ _ _ _ _ (leL_refl _) (hE ..) rfl ?_; conv => whnf)
      | (refine CALLQ.mk _ _ _ (leL_refl _) (hE ..) rfl ?_; conv => whnf)
    split
    · rename_i h
      exact absurd h (by simp [zE])
    rename_i hN
    clear hN
    conv => whnf
    repeat first
      | (show DRAW _ _ _ _ _; (first | refine .mk 0 (by decide +kernel) ?_ | refine .mk 1 (by decide +kernel) ?_ | refine .mk 2 (by decide +kernel) ?_ | refine .mk 3 (by decide +kernel) ?_ | refine .mk 4 (by decide +kernel) ?_ | refine .mk 5 (by decide +kernel) ?_ | refine .mk 6 (by decide +kernel) ?_ | refine .mk 7 (by decide +kernel) ?_ | refine .mk 8 (by decide +kernel) ?_ | refine .mk 9 (by decide +kernel) ?_ | refine .mk 10 (by decide +kernel) ?_ | refine .mk 11 (by decide +kernel) ?_ | refine .mk 12 (by decide +kernel) ?_ | refine .mk 13 (by decide +kernel) ?_ | refine .mk 14 (by decide +kernel) ?_ | refine .mk 15 (by decide +kernel) ?_ | refine .mk 16 (by decide +kernel) ?_ | refine .mk 17 (by decide +kernel) ?_ | refine .mk 18 (by decide +kernel) ?_ | refine .mk 19 (by decide +kernel) ?_ | refine .mk 20 (by decide +kernel) ?_ | refine .mk 21 (by decide +kernel) ?_ | refine .mk 22 (by decide +kernel) ?_ | refine .mk 23 (by decide +kernel) ?_ | refine .mk 24 (by decide +kernel) ?_ | refine .mk 25 (by decide +kernel) ?_ | refine .mk 26 (by decide +kernel) ?_ | refine .mk 27 (by decide +kernel) ?_ | refine .mk 28 (by decide +kernel) ?_ | refine .mk 29 (by decide +kernel) ?_ | refine .mk 30 (by decide +kernel) ?_ | refine .mk 31 (by decide +kernel) ?_ | refine .mk 32 (by decide +kernel) ?_ | refine .mk 33 (by decide +kernel) ?_ | refine .mk 34 (by decide +kernel) ?_ | refine .mk 35 (by decide +kernel) ?_ | refine .mk 36 (by decide +kernel) ?_ | refine .mk 37 (by decide +kernel) ?_ | refine .mk 38 (by decide +kernel) ?_ | refine .mk 39 (by decide +kernel) ?_ | refine .mk 40 (by decide +kernel) ?_ | refine .mk 41 (by decide +kernel) ?_); (conv => whnf))
      | (refine CALL0.cutBy lvBlades _ _ _ _ _ (leL_refl _) (hb ..) rfl ?_; conv => whnf)
      | (refine CALL0.mk _ _ _ _ _ (leL_refl _) (hb ..) rfl ?_; conv => whnf)
      | (refine CALLQ.mk _ _ _ (leL_refl _) (hb ..) rfl ?_; conv => whnf)
      | (refine CALL0.cutBy lvBlades _ _ _ _ _ (leL_refl _) (hPo ..) rfl ?_; conv => whnf)
      | (refine CALL0.mk _ _ _ _ _ (leL_refl _) (hPo ..) rfl ?_; conv => whnf)
      | (refine CALLQ.mk _ _ _ (leL_refl _) (hPo ..) rfl ?_; conv => whnf)
      | (refine CALL0.cutBy lvBlades _ _ _ _ _ (leL_refl _) (hPr ..) rfl ?_; conv => whnf)
      | (refine CALL0.mk _ _ _ _ _ (leL_refl _) (hPr ..) rfl ?_; conv => whnf)
      | (refine CALLQ.mk _ _ _ (leL_refl _) (hPr ..) rfl ?_; conv => whnf)
    split
    rotate_left
    · rename_i h
      exact absurd h (by simp)
    conv => whnf
    repeat first
      | (show DRAW _ _ _ _ _; (first | refine .mk 0 (by decide +kernel) ?_ | refine .mk 1 (by decide +kernel) ?_ | refine .mk 2 (by decide +kernel) ?_ | refine .mk 3 (by decide +kernel) ?_ | refine .mk 4 (by decide +kernel) ?_ | refine .mk 5 (by decide +kernel) ?_ | refine .mk 6 (by decide +kernel) ?_ | refine .mk 7 (by decide +kernel) ?_ | refine .mk 8 (by decide +kernel) ?_ | refine .mk 9 (by decide +kernel) ?_ | refine .mk 10 (by decide +kernel) ?_ | refine .mk 11 (by decide +kernel) ?_ | refine .mk 12 (by decide +kernel) ?_ | refine .mk 13 (by decide +kernel) ?_ | refine .mk 14 (by decide +kernel) ?_ | refine .mk 15 (by decide +kernel) ?_ | refine .mk 16 (by decide +kernel) ?_ | refine .mk 17 (by decide +kernel) ?_ | refine .mk 18 (by decide +kernel) ?_ | refine .mk 19 (by decide +kernel) ?_ | refine .mk 20 (by decide +kernel) ?_ | refine .mk 21 (by decide +kernel) ?_ | refine .mk 22 (by decide +kernel) ?_ | refine .mk 23 (by decide +kernel) ?_ | refine .mk 24 (by decide +kernel) ?_ | refine .mk 25 (by decide +kernel) ?_ | refine .mk 26 (by decide +kernel) ?_ | refine .mk 27 (by decide +kernel) ?_ | refine .mk 28 (by decide +kernel) ?_ | refine .mk 29 (by decide +kernel) ?_ | refine .mk 30 (by decide +kernel) ?_ | refine .mk 31 (by decide +kernel) ?_ | refine .mk 32 (by decide +kernel) ?_ | refine .mk 33 (by decide +kernel) ?_ | refine .mk 34 (by decide +kernel) ?_ | refine .mk 35 (by decide +kernel) ?_ | refine .mk 36 (by decide +kernel) ?_ | refine .mk 37 (by decide +kernel) ?_ | refine .mk 38 (by decide +kernel) ?_ | refine .mk 39 (by decide +kernel) ?_ | refine .mk 40 (by decide +kernel) ?_ | refine .mk 41 (by decide +kernel) ?_); (conv => whnf))
      | (refine CALL0.cutBy lvBlades _ _ _ _ _ (leL_refl _) (hb ..) rfl ?_; conv => whnf)
      | (refine CALL0.mk _ _ _ _ _ (leL_refl _) (hb ..) rfl ?_; conv => whnf)
      | (refine CALLQ.mk _ _ _ (leL_refl _) (hb ..) rfl ?_; conv => whnf)
      | (refine CALL0.cutBy lvBlades _ _ _ _ _ (leL_refl _) (hE2 ..) rfl ?_; conv => whnf)
      | (refine CALL0.mk _ _ _ _ _ (leL_refl _) (hE2 ..) rfl ?_; conv => whnf)
      | (refine CALLQ.mk _ _ _ (leL_refl _) (hE2 ..) rfl ?_; conv => whnf)
    split
    rotate_left
    · rename_i h
      exact absurd h (by simp)
    conv => whnf
    repeat first
      | (show DRAW _ _ _ _ _; (first | refine .mk 0 (by decide +kernel) ?_ | refine .mk 1 (by decide +kernel) ?_ | refine .mk 2 (by decide +kernel) ?_ | refine .mk 3 (by decide +kernel) ?_ | refine .mk 4 (by decide +kernel) ?_ | refine .mk 5 (by decide +kernel) ?_ | refine .mk 6 (by decide +kernel) ?_ | refine .mk 7 (by decide +kernel) ?_ | refine .mk 8 (by decide +kernel) ?_ | refine .mk 9 (by decide +kernel) ?_ | refine .mk 10 (by decide +kernel) ?_ | refine .mk 11 (by decide +kernel) ?_ | refine .mk 12 (by decide +kernel) ?_ | refine .mk 13 (by decide +kernel) ?_ | refine .mk 14 (by decide +kernel) ?_ | refine .mk 15 (by decide +kernel) ?_ | refine .mk 16 (by decide +kernel) ?_ | refine .mk 17 (by decide +kernel) ?_ | refine .mk 18 (by decide +kernel) ?_ | refine .mk 19 (by decide +kernel) ?_ | refine .mk 20 (by decide +kernel) ?_ | refine .mk 21 (by decide +kernel) ?_ | refine .mk 22 (by decide +kernel) ?_ | refine .mk 23 (by decide +kernel) ?_ | refine .mk 24 (by decide +kernel) ?_ | refine .mk 25 (by decide +kernel) ?_ | refine .mk 26 (by decide +kernel) ?_ | refine .mk 27 (by decide +kernel) ?_ | refine .mk 28 (by decide +kernel) ?_ | refine .mk 29 (by decide +kernel) ?_ | refine .mk 30 (by decide +kernel) ?_ | refine .mk 31 (by decide +kernel) ?_ | refine .mk 32 (by decide +kernel) ?_ | refine .mk 33 (by decide +kernel) ?_ | refine .mk 34 (by decide +kernel) ?_ | refine .mk 35 (by decide +kernel) ?_ | refine .mk 36 (by decide +kernel) ?_ | refine .mk 37 (by decide +kernel) ?_ | refine .mk 38 (by decide +kernel) ?_ | refine .mk 39 (by decide +kernel) ?_ | refine .mk 40 (by decide +kernel) ?_ | refine .mk 41 (by decide +kernel) ?_); (conv => whnf))
      | (refine CALL0.cutBy lvBlades _ _ _ _ _ (leL_refl _) (hFo ..) rfl ?_; conv => whnf)
      | (refine CALL0.mk _ _ _ _ _ (leL_refl _) (hFo ..) rfl ?_; conv => whnf)
      | (refine CALLQ.mk _ _ _ (leL_refl _) (hFo ..) rfl ?_; conv => whnf)
      | (refine CALL0.cutBy lvBlades _ _ _ _ _ (leL_refl _) (hFr ..) rfl ?_; conv => whnf)
      | (refine CALL0.mk _ _ _ _ _ (leL_refl _) (hFr ..) rfl ?_; conv => whnf)
      | (refine CALLQ.mk _ _ _ (leL_refl _) (hFr ..) rfl ?_; conv => whnf)
    repeat first
      | exact ⟨rfl, rfl⟩
      | (split; rotate_left; (rename_i hz; exact absurd hz (by simp [hs0])); (conv => whnf))
      | exact ⟨by simp [hs0], rfl⟩

theorem c_RotorBlades (up : List Ces) (hr : gl g_rotor_roots = rootsI) (hp : gl g_internal_strconv_uint64pow10 = powI) (b : Bl) (f : Fl) :
    Cs gl n_nacellelaw03_RotorBlades up [b.iv, f.iv] (.bool true) up := by
  cases hs : b.short with
  | true => exact blades_yes up hr hp b f hs
  | false => exact blades_no up hr hp b f hs
end Go.Proofs.YtllmejkmogepjaaDoor.Ix

/-
  IxSh2: pairs, loads, whole numbers that fit their shapes.
-/
namespace Go.Proofs.YtllmejkmogepjaaDoor.Ix

abbrev pairShp : Shp := .agg [(1, intS), (1, intS)]
abbrev tripShp : Shp := .agg [(1, intS), (1, intS), (1, intS)]

theorem fit_int {v : IV} (h : FitV intS v) : ∃ n, v = .int .i64 n := by
  obtain ⟨m, h, _⟩ := h
  exact ⟨m, (List.cons.inj h).1⟩

theorem fit_pair {v : IV} (h : FitV pairShp v) : ∃ a b, v = .agg [.int .i64 a, .int .i64 b] := by
  obtain ⟨xs, rfl, h⟩ := h
  have := fit_ints 2 xs h
  exact ⟨intAt xs 0, intAt xs 1, by rw [this]; simp [intAt, List.range, List.range.loop]⟩

theorem fit_trip {v : IV} (h : FitV tripShp v) : ∃ a b c, v = .agg [.int .i64 a, .int .i64 b, .int .i64 c] := by
  obtain ⟨xs, rfl, h⟩ := h
  have := fit_ints 3 xs h
  exact ⟨intAt xs 0, intAt xs 1, intAt xs 2, by rw [this]; simp [intAt, List.range, List.range.loop]⟩

theorem cells2 {ys : List IV} (h : Fit pairShp ys) : ∃ a b, ys = [.int .i64 a, .int .i64 b] := by
  have := fit_ints 2 ys h
  exact ⟨intAt ys 0, intAt ys 1, by rw [this]; simp [intAt, List.range, List.range.loop]⟩
theorem cells3 {ys : List IV} (h : Fit tripShp ys) : ∃ a b c, ys = [.int .i64 a, .int .i64 b, .int .i64 c] := by
  have := fit_ints 3 ys h
  exact ⟨intAt ys 0, intAt ys 1, intAt ys 2, by rw [this]; simp [intAt, List.range, List.range.loop]⟩
theorem cells1 {ys : List IV} (h : Fit intS ys) : ∃ a, ys = [.int .i64 a] := by
  obtain ⟨m, rfl, _⟩ := h
  exact ⟨m, rfl⟩

theorem fit_loads {v : IV} (h : FitV (.agg [(3, .agg [(1, intS), (1, intS), (1, intS)]), (1, intS), (2, .agg [(1, intS), (1, intS)])]) v) :
    ∃ p q r s t u, v = .agg [.int .i64 p, .int .i64 q, .int .i64 r, .int .i64 s, .int .i64 t, .int .i64 u] := by
  obtain ⟨xs, rfl, h⟩ := h
  simp only [FitL] at h
  obtain ⟨y1, z1, rfl, _, h1, y2, z2, rfl, _, h2, y3, z3, rfl, _, h3, rfl⟩ := h
  obtain ⟨p, q, r, rfl⟩ := cells3 h1
  obtain ⟨s, rfl⟩ := cells1 h2
  obtain ⟨t, u, rfl⟩ := cells2 h3
  exact ⟨p, q, r, s, t, u, rfl⟩

theorem fit_spot {v : IV} (h : FitV (.agg [(1, intS), (2, .agg [(1, intS), (1, intS)]), (1, intS), (1, intS)]) v) :
    ∃ p q r s t, v = .agg [.int .i64 p, .int .i64 q, .int .i64 r, .int .i64 s, .int .i64 t] := by
  obtain ⟨xs, rfl, h⟩ := h
  simp only [FitL] at h
  obtain ⟨y1, z1, rfl, _, h1, y2, z2, rfl, _, h2, y3, z3, rfl, _, h3, y4, z4, rfl, _, h4, rfl⟩ := h
  obtain ⟨p, rfl⟩ := cells1 h1
  obtain ⟨q, r, rfl⟩ := cells2 h2
  obtain ⟨s, rfl⟩ := cells1 h3
  obtain ⟨t, rfl⟩ := cells1 h4
  exact ⟨p, q, r, s, t, rfl⟩

theorem fit_quad {v : IV} (h : FitV (.agg [(1, intS), (1, intS), (1, intS), (1, intS)]) v) : ∃ p q r s, v = .agg [.int .i64 p, .int .i64 q, .int .i64 r, .int .i64 s] := by
  obtain ⟨xs, rfl, h⟩ := h
  have := fit_ints 4 xs h
  exact ⟨intAt xs 0, intAt xs 1, intAt xs 2, intAt xs 3, by rw [this]; simp [intAt, List.range, List.range.loop]⟩

theorem fit_slice3 {v : IV} (h : FitV (.slice 3 tripShp) v) : ∃ (n : Nat) (x y z : Nat → Int), n ≤ maxLen ∧ leV v (.lst none 3 n fun i => [.int .i64 (x i), .int .i64 (y i), .int .i64 (z i)]) := by
  obtain ⟨n, f, h, hn, hf⟩ := h
  obtain rfl := (List.cons.inj h).1
  refine ⟨n, fun i => intAt (f i) 0, fun i => intAt (f i) 1, fun i => intAt (f i) 2, hn, .inl rfl, rfl, rfl, fun i hi => ?_⟩
  obtain ⟨_, hf⟩ := hf i hi
  exact fit_ints 3 (f i) hf
end Go.Proofs.YtllmejkmogepjaaDoor.Ix
