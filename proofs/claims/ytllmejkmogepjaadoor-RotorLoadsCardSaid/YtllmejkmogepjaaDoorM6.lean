/-
  Ll2: RotorLoads: the law.
-/
import Derived.Test.YtllmejkmogepjaaDoorM5
namespace Go.Proofs.YtllmejkmogepjaaDoor.Ix
open Go.Proofs
set_option maxRecDepth 100000
set_option linter.unusedVariables false
variable {gl : Nat → IV}

theorem splitR_u (a b c : Int) : splitR a b c = .tup [.int .i64 (zE (loadS a b c) (a + b + c)), .agg [.int .i64 (zE (loadS a b c) (a - c)), .int .i64 (zE (loadS a b c) (b - c))], .int .i64 (loadS a b c)] := by
  unfold splitR
  cases h : (loadS a b c != 0) with
  | true => rw [zE_pos h, zE_pos h, zE_pos h]; rfl
  | false => rw [zE_neg h, zE_neg h, zE_neg h, ne0 h]; rfl

theorem recS_ok {n : Nat} {x y z : Nat → Int} (h : recS n x y z = 0) : n ≤ 400 ∧ ∀ i, i < n → (-1000000 ≤ x i ∧ x i ≤ 1000000) ∧ (-1000000 ≤ y i ∧ y i ≤ 1000000) ∧ (-1000000 ≤ z i ∧ z i ≤ 1000000) := by
  unfold recS at h
  cases hb : decide ((n : Int) > 400) with
  | true => rw [hb] at h; cases h
  | false =>
    rw [hb, cond_false] at h
    simp at hb
    exact ⟨by omega, recE_ok h⟩

set_option maxHeartbeats 8000000 in
theorem c_RotorLoads (up : List Ces) (hr : gl g_rotor_roots = rootsI) (hp : gl g_internal_strconv_uint64pow10 = powI) (p q r s t u : Int) (n : Nat) (x y z : Nat → Int) :
    Cs gl n_nacellelaw03_RotorLoads up [.agg [.int .i64 p, .int .i64 q, .int .i64 r, .int .i64 s, .int .i64 t, .int .i64 u], loadsI none n x y z] (.bool true) up := by
  refine mk h_nacellelaw03_RotorLoads rfl rfl ?_
  have hS := fun up => c_Split (gl := gl) up p q r
  have hM := fun up => c_Merge (gl := gl) up s t u
  have hR := fun up => c_Rotating (gl := gl) up n x y z
  have hF := fun up => c_Fixed (gl := gl) up hr n x y z
  simp only [splitR_u] at hS
  unfold rotR at hR
  unfold fixR at hF
  simp only [recR_u] at hR hF
  conv => whnf
  refine .mk _ _ _ _ _ (leL_refl _) (c_awake _ hr hp) rfl ?_
  conv => whnf
  split
  · conv => whnf
    split
    · conv => whnf
      refine .mk _ _ _ _ _ (leL_refl _) (c_awake _ hr hp) rfl ?_
      conv => whnf
      exact ⟨rfl, rfl⟩
    · rename_i h
      have h : ((n : Int) != 401) = false := h
      have hn : n ≤ 1000000 := by simp at h; omega
      conv => whnf
      refine .mk _ _ _ _ _ (leL_refl _) (hS _) rfl ?_
      conv => whnf
      rcases Classical.em (mergeE s t u = 0) with w2 | w2
      · rw [mergeR_ok w2] at hM
        refine .mk _ _ _ _ _ (leL_refl _) (hM _) rfl ?_
        conv => whnf
        split
        rotate_left
        · rename_i h
          have h' : decide (n ≤ 1073741824) = false := h
          simp at h' <;> omega
        conv => whnf
        refine .mk _ _ _ _ _ (leL_refl _) (hR _) rfl ?_
        conv => whnf
        split
        rotate_left
        · rename_i h
          have h' : decide (n ≤ 1073741824) = false := h
          simp at h' <;> omega
        conv => whnf
        refine .mk _ _ _ _ _ (leL_refl _) (hF _) rfl ?_
        conv => whnf
        refine .mk 13 (by kernel_rfl) ?_
        conv => whnf
        refine .mk _ _ _ (leL_refl _) (c_rCheckLoads _ _ _ _) rfl ?_
        conv => whnf
        refine .mk _ _ _ (leL_refl _) (c_CheckRange _ _ _ _) rfl ?_
        conv => whnf
        refine .mk _ _ _ (leL_refl _) (c_rCheckPair _ _ _) rfl ?_
        conv => whnf
        refine .mk _ _ _ (leL_refl _) (c_rf2 _ _ _ _ rfl rfl) rfl ?_
        conv => whnf
        refine .mk _ _ _ (leL_refl _) (c_rCheckRecord _ _ _ _ _) rfl ?_
        conv => whnf
        split
        · rename_i q1
          have z1 : loadS p q r = 0 := by simpa using q1
          obtain ⟨k1, k2, k3⟩ := loadS_ok z1
          have e1 : w64 (w64 (p + q) + r) = p + q + r := by
            have : w64 (p + q) = p + q := by rw [w64, wrap_in] <;> omega
            rw [this, w64, wrap_in] <;> omega
          conv => whnf
          refine .mk 14 (by kernel_rfl) ?_
          conv => whnf
          refine .mk _ _ _ (leL_refl _) (c_rComponent _ _ _ _ k1 k2 k3) rfl ?_
          conv => whnf
          split
          · conv => whnf
            refine .mk _ _ _ _ _ (leL_refl _) (c_rMerge _ _ _ _ w2) rfl ?_
            conv => whnf
            split
            · rename_i q3
              have z3 : recS n x y z = 0 := by simpa using q3
              obtain ⟨hn4, hv⟩ := recS_ok z3
              conv => whnf
              refine .mk _ _ _ _ _ (leL_refl _) (c_rRotating _ n hn4 x y z hv) rfl ?_
              conv => whnf
              refine .mk _ _ _ _ _ (leL_refl _) (c_rFixed _ n hn4 x y z hv) rfl ?_
              conv => whnf
              refine .mk _ _ _ _ _ (leL_refl _) (c_number _ _ _ _ _ rfl (fun h => zE_ne h) (fun h => by first | exact absurd h z1 | exact (by rw [h, zE_0]; exact e1.symm))) rfl ?_
              conv => whnf
              refine .mk _ _ _ _ _ (leL_refl _) (c_pair _ _ _ _ _ _ _ rfl (fun h => ⟨zE_ne h, zE_ne h⟩) (fun h => by first | exact absurd h z1 | (rw [h]; exact ⟨rfl, rfl⟩))) rfl ?_
              conv => whnf
              split
              rotate_left
              · rename_i h
                exact absurd h (by simp)
              conv => whnf
              split
              rotate_left
              · rename_i h
                exact absurd h (by simp)
              conv => whnf
              refine .mk _ _ _ _ _ (leL_refl _) (c_pair _ _ _ _ _ _ _ rfl (fun h => ⟨zE_ne h, zE_ne h⟩) (fun h => by first | exact absurd h z3 | (rw [h]; exact ⟨rfl, rfl⟩))) rfl ?_
              conv => whnf
              refine .mk _ _ _ _ _ (leL_refl _) (c_pair _ _ _ _ _ _ _ rfl (fun h => ⟨zE_ne h, zE_ne h⟩) (fun h => by first | exact absurd h z3 | (rw [h]; exact ⟨rfl, rfl⟩))) rfl ?_
              conv => whnf
              exact ⟨rfl, rfl⟩
            · rename_i q3
              have z3 : recS n x y z ≠ 0 := by simpa using q3
              conv => whnf
              refine .mk _ _ _ _ _ (leL_refl _) (c_number _ _ _ _ _ rfl (fun h => zE_ne h) (fun h => by first | exact absurd h z1 | exact (by rw [h, zE_0]; exact e1.symm))) rfl ?_
              conv => whnf
              refine .mk _ _ _ _ _ (leL_refl _) (c_pair _ _ _ _ _ _ _ rfl (fun h => ⟨zE_ne h, zE_ne h⟩) (fun h => by first | exact absurd h z1 | (rw [h]; exact ⟨rfl, rfl⟩))) rfl ?_
              conv => whnf
              split
              rotate_left
              · rename_i h
                exact absurd h (by simp)
              conv => whnf
              split
              rotate_left
              · rename_i h
                exact absurd h (by simp)
              conv => whnf
              refine .mk _ _ _ _ _ (leL_refl _) (c_pair _ _ _ _ _ _ _ rfl (fun h => ⟨zE_ne h, zE_ne h⟩) (fun h => by first | exact absurd h z3 | (rw [h]; exact ⟨rfl, rfl⟩))) rfl ?_
              conv => whnf
              refine .mk _ _ _ _ _ (leL_refl _) (c_pair _ _ _ _ _ _ _ rfl (fun h => ⟨zE_ne h, zE_ne h⟩) (fun h => by first | exact absurd h z3 | (rw [h]; exact ⟨rfl, rfl⟩))) rfl ?_
              conv => whnf
              exact ⟨rfl, rfl⟩
          · rename_i q2
            exact absurd w2 (by unfold mergeE; simpa using q2)
        · rename_i q1
          have z1 : loadS p q r ≠ 0 := by simpa using q1
          conv => whnf
          split
          · conv => whnf
            refine .mk _ _ _ _ _ (leL_refl _) (c_rMerge _ _ _ _ w2) rfl ?_
            conv => whnf
            split
            · rename_i q3
              have z3 : recS n x y z = 0 := by simpa using q3
              obtain ⟨hn4, hv⟩ := recS_ok z3
              conv => whnf
              refine .mk _ _ _ _ _ (leL_refl _) (c_rRotating _ n hn4 x y z hv) rfl ?_
              conv => whnf
              refine .mk _ _ _ _ _ (leL_refl _) (c_rFixed _ n hn4 x y z hv) rfl ?_
              conv => whnf
              refine .mk _ _ _ _ _ (leL_refl _) (c_number _ _ _ _ _ rfl (fun h => zE_ne h) (fun h => by first | exact absurd h z1 | exact (by rw [h, zE_0]; exact e1.symm))) rfl ?_
              conv => whnf
              refine .mk _ _ _ _ _ (leL_refl _) (c_pair _ _ _ _ _ _ _ rfl (fun h => ⟨zE_ne h, zE_ne h⟩) (fun h => by first | exact absurd h z1 | (rw [h]; exact ⟨rfl, rfl⟩))) rfl ?_
              conv => whnf
              split
              rotate_left
              · rename_i h
                exact absurd h (by simp)
              conv => whnf
              split
              rotate_left
              · rename_i h
                exact absurd h (by simp)
              conv => whnf
              refine .mk _ _ _ _ _ (leL_refl _) (c_pair _ _ _ _ _ _ _ rfl (fun h => ⟨zE_ne h, zE_ne h⟩) (fun h => by first | exact absurd h z3 | (rw [h]; exact ⟨rfl, rfl⟩))) rfl ?_
              conv => whnf
              refine .mk _ _ _ _ _ (leL_refl _) (c_pair _ _ _ _ _ _ _ rfl (fun h => ⟨zE_ne h, zE_ne h⟩) (fun h => by first | exact absurd h z3 | (rw [h]; exact ⟨rfl, rfl⟩))) rfl ?_
              conv => whnf
              exact ⟨rfl, rfl⟩
            · rename_i q3
              have z3 : recS n x y z ≠ 0 := by simpa using q3
              conv => whnf
              refine .mk _ _ _ _ _ (leL_refl _) (c_number _ _ _ _ _ rfl (fun h => zE_ne h) (fun h => by first | exact absurd h z1 | exact (by rw [h, zE_0]; exact e1.symm))) rfl ?_
              conv => whnf
              refine .mk _ _ _ _ _ (leL_refl _) (c_pair _ _ _ _ _ _ _ rfl (fun h => ⟨zE_ne h, zE_ne h⟩) (fun h => by first | exact absurd h z1 | (rw [h]; exact ⟨rfl, rfl⟩))) rfl ?_
              conv => whnf
              split
              rotate_left
              · rename_i h
                exact absurd h (by simp)
              conv => whnf
              split
              rotate_left
              · rename_i h
                exact absurd h (by simp)
              conv => whnf
              refine .mk _ _ _ _ _ (leL_refl _) (c_pair _ _ _ _ _ _ _ rfl (fun h => ⟨zE_ne h, zE_ne h⟩) (fun h => by first | exact absurd h z3 | (rw [h]; exact ⟨rfl, rfl⟩))) rfl ?_
              conv => whnf
              refine .mk _ _ _ _ _ (leL_refl _) (c_pair _ _ _ _ _ _ _ rfl (fun h => ⟨zE_ne h, zE_ne h⟩) (fun h => by first | exact absurd h z3 | (rw [h]; exact ⟨rfl, rfl⟩))) rfl ?_
              conv => whnf
              exact ⟨rfl, rfl⟩
          · rename_i q2
            exact absurd w2 (by unfold mergeE; simpa using q2)
      · rw [mergeR_no w2] at hM
        unfold mergeE at hM
        refine .mk _ _ _ _ _ (leL_refl _) (hM _) rfl ?_
        conv => whnf
        split
        rotate_left
        · rename_i h
          have h' : decide (n ≤ 1073741824) = false := h
          simp at h' <;> omega
        conv => whnf
        refine .mk _ _ _ _ _ (leL_refl _) (hR _) rfl ?_
        conv => whnf
        split
        rotate_left
        · rename_i h
          have h' : decide (n ≤ 1073741824) = false := h
          simp at h' <;> omega
        conv => whnf
        refine .mk _ _ _ _ _ (leL_refl _) (hF _) rfl ?_
        conv => whnf
        refine .mk 13 (by kernel_rfl) ?_
        conv => whnf
        refine .mk _ _ _ (leL_refl _) (c_rCheckLoads _ _ _ _) rfl ?_
        conv => whnf
        refine .mk _ _ _ (leL_refl _) (c_CheckRange _ _ _ _) rfl ?_
        conv => whnf
        refine .mk _ _ _ (leL_refl _) (c_rCheckPair _ _ _) rfl ?_
        conv => whnf
        refine .mk _ _ _ (leL_refl _) (c_rf2 _ _ _ _ rfl rfl) rfl ?_
        conv => whnf
        refine .mk _ _ _ (leL_refl _) (c_rCheckRecord _ _ _ _ _) rfl ?_
        conv => whnf
        split
        · rename_i q1
          have z1 : loadS p q r = 0 := by simpa using q1
          obtain ⟨k1, k2, k3⟩ := loadS_ok z1
          have e1 : w64 (w64 (p + q) + r) = p + q + r := by
            have : w64 (p + q) = p + q := by rw [w64, wrap_in] <;> omega
            rw [this, w64, wrap_in] <;> omega
          conv => whnf
          refine .mk 14 (by kernel_rfl) ?_
          conv => whnf
          refine .mk _ _ _ (leL_refl _) (c_rComponent _ _ _ _ k1 k2 k3) rfl ?_
          conv => whnf
          split
          · rename_i q2
            exact absurd (show mergeE s t u = 0 by unfold mergeE; simpa using q2) w2
          · conv => whnf
            split
            · rename_i q3
              have z3 : recS n x y z = 0 := by simpa using q3
              obtain ⟨hn4, hv⟩ := recS_ok z3
              conv => whnf
              refine .mk _ _ _ _ _ (leL_refl _) (c_rRotating _ n hn4 x y z hv) rfl ?_
              conv => whnf
              refine .mk _ _ _ _ _ (leL_refl _) (c_rFixed _ n hn4 x y z hv) rfl ?_
              conv => whnf
              refine .mk _ _ _ _ _ (leL_refl _) (c_number _ _ _ _ _ rfl (fun h => zE_ne h) (fun h => by first | exact absurd h z1 | exact (by rw [h, zE_0]; exact e1.symm))) rfl ?_
              conv => whnf
              refine .mk _ _ _ _ _ (leL_refl _) (c_pair _ _ _ _ _ _ _ rfl (fun h => ⟨zE_ne h, zE_ne h⟩) (fun h => by first | exact absurd h z1 | (rw [h]; exact ⟨rfl, rfl⟩))) rfl ?_
              conv => whnf
              split
              rotate_left
              · rename_i h
                exact absurd h (by simp)
              conv => whnf
              refine .mk _ _ _ _ _ (leL_refl _) (c_pair _ _ _ _ _ _ _ rfl (fun h => ⟨zE_ne h, zE_ne h⟩) (fun h => by first | exact absurd h z3 | (rw [h]; exact ⟨rfl, rfl⟩))) rfl ?_
              conv => whnf
              refine .mk _ _ _ _ _ (leL_refl _) (c_pair _ _ _ _ _ _ _ rfl (fun h => ⟨zE_ne h, zE_ne h⟩) (fun h => by first | exact absurd h z3 | (rw [h]; exact ⟨rfl, rfl⟩))) rfl ?_
              conv => whnf
              exact ⟨rfl, rfl⟩
            · rename_i q3
              have z3 : recS n x y z ≠ 0 := by simpa using q3
              conv => whnf
              refine .mk _ _ _ _ _ (leL_refl _) (c_number _ _ _ _ _ rfl (fun h => zE_ne h) (fun h => by first | exact absurd h z1 | exact (by rw [h, zE_0]; exact e1.symm))) rfl ?_
              conv => whnf
              refine .mk _ _ _ _ _ (leL_refl _) (c_pair _ _ _ _ _ _ _ rfl (fun h => ⟨zE_ne h, zE_ne h⟩) (fun h => by first | exact absurd h z1 | (rw [h]; exact ⟨rfl, rfl⟩))) rfl ?_
              conv => whnf
              split
              rotate_left
              · rename_i h
                exact absurd h (by simp)
              conv => whnf
              refine .mk _ _ _ _ _ (leL_refl _) (c_pair _ _ _ _ _ _ _ rfl (fun h => ⟨zE_ne h, zE_ne h⟩) (fun h => by first | exact absurd h z3 | (rw [h]; exact ⟨rfl, rfl⟩))) rfl ?_
              conv => whnf
              refine .mk _ _ _ _ _ (leL_refl _) (c_pair _ _ _ _ _ _ _ rfl (fun h => ⟨zE_ne h, zE_ne h⟩) (fun h => by first | exact absurd h z3 | (rw [h]; exact ⟨rfl, rfl⟩))) rfl ?_
              conv => whnf
              exact ⟨rfl, rfl⟩
        · rename_i q1
          have z1 : loadS p q r ≠ 0 := by simpa using q1
          conv => whnf
          split
          · rename_i q2
            exact absurd (show mergeE s t u = 0 by unfold mergeE; simpa using q2) w2
          · conv => whnf
            split
            · rename_i q3
              have z3 : recS n x y z = 0 := by simpa using q3
              obtain ⟨hn4, hv⟩ := recS_ok z3
              conv => whnf
              refine .mk _ _ _ _ _ (leL_refl _) (c_rRotating _ n hn4 x y z hv) rfl ?_
              conv => whnf
              refine .mk _ _ _ _ _ (leL_refl _) (c_rFixed _ n hn4 x y z hv) rfl ?_
              conv => whnf
              refine .mk _ _ _ _ _ (leL_refl _) (c_number _ _ _ _ _ rfl (fun h => zE_ne h) (fun h => by first | exact absurd h z1 | exact (by rw [h, zE_0]; exact e1.symm))) rfl ?_
              conv => whnf
              refine .mk _ _ _ _ _ (leL_refl _) (c_pair _ _ _ _ _ _ _ rfl (fun h => ⟨zE_ne h, zE_ne h⟩) (fun h => by first | exact absurd h z1 | (rw [h]; exact ⟨rfl, rfl⟩))) rfl ?_
              conv => whnf
              split
              rotate_left
              · rename_i h
                exact absurd h (by simp)
              conv => whnf
              refine .mk _ _ _ _ _ (leL_refl _) (c_pair _ _ _ _ _ _ _ rfl (fun h => ⟨zE_ne h, zE_ne h⟩) (fun h => by first | exact absurd h z3 | (rw [h]; exact ⟨rfl, rfl⟩))) rfl ?_
              conv => whnf
              refine .mk _ _ _ _ _ (leL_refl _) (c_pair _ _ _ _ _ _ _ rfl (fun h => ⟨zE_ne h, zE_ne h⟩) (fun h => by first | exact absurd h z3 | (rw [h]; exact ⟨rfl, rfl⟩))) rfl ?_
              conv => whnf
              exact ⟨rfl, rfl⟩
            · rename_i q3
              have z3 : recS n x y z ≠ 0 := by simpa using q3
              conv => whnf
              refine .mk _ _ _ _ _ (leL_refl _) (c_number _ _ _ _ _ rfl (fun h => zE_ne h) (fun h => by first | exact absurd h z1 | exact (by rw [h, zE_0]; exact e1.symm))) rfl ?_
              conv => whnf
              refine .mk _ _ _ _ _ (leL_refl _) (c_pair _ _ _ _ _ _ _ rfl (fun h => ⟨zE_ne h, zE_ne h⟩) (fun h => by first | exact absurd h z1 | (rw [h]; exact ⟨rfl, rfl⟩))) rfl ?_
              conv => whnf
              split
              rotate_left
              · rename_i h
                exact absurd h (by simp)
              conv => whnf
              refine .mk _ _ _ _ _ (leL_refl _) (c_pair _ _ _ _ _ _ _ rfl (fun h => ⟨zE_ne h, zE_ne h⟩) (fun h => by first | exact absurd h z3 | (rw [h]; exact ⟨rfl, rfl⟩))) rfl ?_
              conv => whnf
              refine .mk _ _ _ _ _ (leL_refl _) (c_pair _ _ _ _ _ _ _ rfl (fun h => ⟨zE_ne h, zE_ne h⟩) (fun h => by first | exact absurd h z3 | (rw [h]; exact ⟨rfl, rfl⟩))) rfl ?_
              conv => whnf
              exact ⟨rfl, rfl⟩
  · rename_i h
    have h : decide ((n : Int) > 20) = false := h
    have hn : n ≤ 1000000 := by simp at h; omega
    conv => whnf
    refine .mk _ _ _ _ _ (leL_refl _) (hS _) rfl ?_
    conv => whnf
    rcases Classical.em (mergeE s t u = 0) with w2 | w2
    · rw [mergeR_ok w2] at hM
      refine .mk _ _ _ _ _ (leL_refl _) (hM _) rfl ?_
      conv => whnf
      split
      rotate_left
      · rename_i h
        have h' : decide (n ≤ 1073741824) = false := h
        simp at h' <;> omega
      conv => whnf
      refine .mk _ _ _ _ _ (leL_refl _) (hR _) rfl ?_
      conv => whnf
      split
      rotate_left
      · rename_i h
        have h' : decide (n ≤ 1073741824) = false := h
        simp at h' <;> omega
      conv => whnf
      refine .mk _ _ _ _ _ (leL_refl _) (hF _) rfl ?_
      conv => whnf
      refine .mk 13 (by kernel_rfl) ?_
      conv => whnf
      refine .mk _ _ _ (leL_refl _) (c_rCheckLoads _ _ _ _) rfl ?_
      conv => whnf
      refine .mk _ _ _ (leL_refl _) (c_CheckRange _ _ _ _) rfl ?_
      conv => whnf
      refine .mk _ _ _ (leL_refl _) (c_rCheckPair _ _ _) rfl ?_
      conv => whnf
      refine .mk _ _ _ (leL_refl _) (c_rf2 _ _ _ _ rfl rfl) rfl ?_
      conv => whnf
      refine .mk _ _ _ (leL_refl _) (c_rCheckRecord _ _ _ _ _) rfl ?_
      conv => whnf
      split
      · rename_i q1
        have z1 : loadS p q r = 0 := by simpa using q1
        obtain ⟨k1, k2, k3⟩ := loadS_ok z1
        have e1 : w64 (w64 (p + q) + r) = p + q + r := by
          have : w64 (p + q) = p + q := by rw [w64, wrap_in] <;> omega
          rw [this, w64, wrap_in] <;> omega
        conv => whnf
        refine .mk 14 (by kernel_rfl) ?_
        conv => whnf
        refine .mk _ _ _ (leL_refl _) (c_rComponent _ _ _ _ k1 k2 k3) rfl ?_
        conv => whnf
        split
        · conv => whnf
          refine .mk _ _ _ _ _ (leL_refl _) (c_rMerge _ _ _ _ w2) rfl ?_
          conv => whnf
          split
          · rename_i q3
            have z3 : recS n x y z = 0 := by simpa using q3
            obtain ⟨hn4, hv⟩ := recS_ok z3
            conv => whnf
            refine .mk _ _ _ _ _ (leL_refl _) (c_rRotating _ n hn4 x y z hv) rfl ?_
            conv => whnf
            refine .mk _ _ _ _ _ (leL_refl _) (c_rFixed _ n hn4 x y z hv) rfl ?_
            conv => whnf
            refine .mk _ _ _ _ _ (leL_refl _) (c_number _ _ _ _ _ rfl (fun h => zE_ne h) (fun h => by first | exact absurd h z1 | exact (by rw [h, zE_0]; exact e1.symm))) rfl ?_
            conv => whnf
            refine .mk _ _ _ _ _ (leL_refl _) (c_pair _ _ _ _ _ _ _ rfl (fun h => ⟨zE_ne h, zE_ne h⟩) (fun h => by first | exact absurd h z1 | (rw [h]; exact ⟨rfl, rfl⟩))) rfl ?_
            conv => whnf
            split
            rotate_left
            · rename_i h
              exact absurd h (by simp)
            conv => whnf
            split
            rotate_left
            · rename_i h
              exact absurd h (by simp)
            conv => whnf
            refine .mk _ _ _ _ _ (leL_refl _) (c_pair _ _ _ _ _ _ _ rfl (fun h => ⟨zE_ne h, zE_ne h⟩) (fun h => by first | exact absurd h z3 | (rw [h]; exact ⟨rfl, rfl⟩))) rfl ?_
            conv => whnf
            refine .mk _ _ _ _ _ (leL_refl _) (c_pair _ _ _ _ _ _ _ rfl (fun h => ⟨zE_ne h, zE_ne h⟩) (fun h => by first | exact absurd h z3 | (rw [h]; exact ⟨rfl, rfl⟩))) rfl ?_
            conv => whnf
            exact ⟨rfl, rfl⟩
          · rename_i q3
            have z3 : recS n x y z ≠ 0 := by simpa using q3
            conv => whnf
            refine .mk _ _ _ _ _ (leL_refl _) (c_number _ _ _ _ _ rfl (fun h => zE_ne h) (fun h => by first | exact absurd h z1 | exact (by rw [h, zE_0]; exact e1.symm))) rfl ?_
            conv => whnf
            refine .mk _ _ _ _ _ (leL_refl _) (c_pair _ _ _ _ _ _ _ rfl (fun h => ⟨zE_ne h, zE_ne h⟩) (fun h => by first | exact absurd h z1 | (rw [h]; exact ⟨rfl, rfl⟩))) rfl ?_
            conv => whnf
            split
            rotate_left
            · rename_i h
              exact absurd h (by simp)
            conv => whnf
            split
            rotate_left
            · rename_i h
              exact absurd h (by simp)
            conv => whnf
            refine .mk _ _ _ _ _ (leL_refl _) (c_pair _ _ _ _ _ _ _ rfl (fun h => ⟨zE_ne h, zE_ne h⟩) (fun h => by first | exact absurd h z3 | (rw [h]; exact ⟨rfl, rfl⟩))) rfl ?_
            conv => whnf
            refine .mk _ _ _ _ _ (leL_refl _) (c_pair _ _ _ _ _ _ _ rfl (fun h => ⟨zE_ne h, zE_ne h⟩) (fun h => by first | exact absurd h z3 | (rw [h]; exact ⟨rfl, rfl⟩))) rfl ?_
            conv => whnf
            exact ⟨rfl, rfl⟩
        · rename_i q2
          exact absurd w2 (by unfold mergeE; simpa using q2)
      · rename_i q1
        have z1 : loadS p q r ≠ 0 := by simpa using q1
        conv => whnf
        split
        · conv => whnf
          refine .mk _ _ _ _ _ (leL_refl _) (c_rMerge _ _ _ _ w2) rfl ?_
          conv => whnf
          split
          · rename_i q3
            have z3 : recS n x y z = 0 := by simpa using q3
            obtain ⟨hn4, hv⟩ := recS_ok z3
            conv => whnf
            refine .mk _ _ _ _ _ (leL_refl _) (c_rRotating _ n hn4 x y z hv) rfl ?_
            conv => whnf
            refine .mk _ _ _ _ _ (leL_refl _) (c_rFixed _ n hn4 x y z hv) rfl ?_
            conv => whnf
            refine .mk _ _ _ _ _ (leL_refl _) (c_number _ _ _ _ _ rfl (fun h => zE_ne h) (fun h => by first | exact absurd h z1 | exact (by rw [h, zE_0]; exact e1.symm))) rfl ?_
            conv => whnf
            refine .mk _ _ _ _ _ (leL_refl _) (c_pair _ _ _ _ _ _ _ rfl (fun h => ⟨zE_ne h, zE_ne h⟩) (fun h => by first | exact absurd h z1 | (rw [h]; exact ⟨rfl, rfl⟩))) rfl ?_
            conv => whnf
            split
            rotate_left
            · rename_i h
              exact absurd h (by simp)
            conv => whnf
            split
            rotate_left
            · rename_i h
              exact absurd h (by simp)
            conv => whnf
            refine .mk _ _ _ _ _ (leL_refl _) (c_pair _ _ _ _ _ _ _ rfl (fun h => ⟨zE_ne h, zE_ne h⟩) (fun h => by first | exact absurd h z3 | (rw [h]; exact ⟨rfl, rfl⟩))) rfl ?_
            conv => whnf
            refine .mk _ _ _ _ _ (leL_refl _) (c_pair _ _ _ _ _ _ _ rfl (fun h => ⟨zE_ne h, zE_ne h⟩) (fun h => by first | exact absurd h z3 | (rw [h]; exact ⟨rfl, rfl⟩))) rfl ?_
            conv => whnf
            exact ⟨rfl, rfl⟩
          · rename_i q3
            have z3 : recS n x y z ≠ 0 := by simpa using q3
            conv => whnf
            refine .mk _ _ _ _ _ (leL_refl _) (c_number _ _ _ _ _ rfl (fun h => zE_ne h) (fun h => by first | exact absurd h z1 | exact (by rw [h, zE_0]; exact e1.symm))) rfl ?_
            conv => whnf
            refine .mk _ _ _ _ _ (leL_refl _) (c_pair _ _ _ _ _ _ _ rfl (fun h => ⟨zE_ne h, zE_ne h⟩) (fun h => by first | exact absurd h z1 | (rw [h]; exact ⟨rfl, rfl⟩))) rfl ?_
            conv => whnf
            split
            rotate_left
            · rename_i h
              exact absurd h (by simp)
            conv => whnf
            split
            rotate_left
            · rename_i h
              exact absurd h (by simp)
            conv => whnf
            refine .mk _ _ _ _ _ (leL_refl _) (c_pair _ _ _ _ _ _ _ rfl (fun h => ⟨zE_ne h, zE_ne h⟩) (fun h => by first | exact absurd h z3 | (rw [h]; exact ⟨rfl, rfl⟩))) rfl ?_
            conv => whnf
            refine .mk _ _ _ _ _ (leL_refl _) (c_pair _ _ _ _ _ _ _ rfl (fun h => ⟨zE_ne h, zE_ne h⟩) (fun h => by first | exact absurd h z3 | (rw [h]; exact ⟨rfl, rfl⟩))) rfl ?_
            conv => whnf
            exact ⟨rfl, rfl⟩
        · rename_i q2
          exact absurd w2 (by unfold mergeE; simpa using q2)
    · rw [mergeR_no w2] at hM
      unfold mergeE at hM
      refine .mk _ _ _ _ _ (leL_refl _) (hM _) rfl ?_
      conv => whnf
      split
      rotate_left
      · rename_i h
        have h' : decide (n ≤ 1073741824) = false := h
        simp at h' <;> omega
      conv => whnf
      refine .mk _ _ _ _ _ (leL_refl _) (hR _) rfl ?_
      conv => whnf
      split
      rotate_left
      · rename_i h
        have h' : decide (n ≤ 1073741824) = false := h
        simp at h' <;> omega
      conv => whnf
      refine .mk _ _ _ _ _ (leL_refl _) (hF _) rfl ?_
      conv => whnf
      refine .mk 13 (by kernel_rfl) ?_
      conv => whnf
      refine .mk _ _ _ (leL_refl _) (c_rCheckLoads _ _ _ _) rfl ?_
      conv => whnf
      refine .mk _ _ _ (leL_refl _) (c_CheckRange _ _ _ _) rfl ?_
      conv => whnf
      refine .mk _ _ _ (leL_refl _) (c_rCheckPair _ _ _) rfl ?_
      conv => whnf
      refine .mk _ _ _ (leL_refl _) (c_rf2 _ _ _ _ rfl rfl) rfl ?_
      conv => whnf
      refine .mk _ _ _ (leL_refl _) (c_rCheckRecord _ _ _ _ _) rfl ?_
      conv => whnf
      split
      · rename_i q1
        have z1 : loadS p q r = 0 := by simpa using q1
        obtain ⟨k1, k2, k3⟩ := loadS_ok z1
        have e1 : w64 (w64 (p + q) + r) = p + q + r := by
          have : w64 (p + q) = p + q := by rw [w64, wrap_in] <;> omega
          rw [this, w64, wrap_in] <;> omega
        conv => whnf
        refine .mk 14 (by kernel_rfl) ?_
        conv => whnf
        refine .mk _ _ _ (leL_refl _) (c_rComponent _ _ _ _ k1 k2 k3) rfl ?_
        conv => whnf
        split
        · rename_i q2
          exact absurd (show mergeE s t u = 0 by unfold mergeE; simpa using q2) w2
        · conv => whnf
          split
          · rename_i q3
            have z3 : recS n x y z = 0 := by simpa using q3
            obtain ⟨hn4, hv⟩ := recS_ok z3
            conv => whnf
            refine .mk _ _ _ _ _ (leL_refl _) (c_rRotating _ n hn4 x y z hv) rfl ?_
            conv => whnf
            refine .mk _ _ _ _ _ (leL_refl _) (c_rFixed _ n hn4 x y z hv) rfl ?_
            conv => whnf
            refine .mk _ _ _ _ _ (leL_refl _) (c_number _ _ _ _ _ rfl (fun h => zE_ne h) (fun h => by first | exact absurd h z1 | exact (by rw [h, zE_0]; exact e1.symm))) rfl ?_
            conv => whnf
            refine .mk _ _ _ _ _ (leL_refl _) (c_pair _ _ _ _ _ _ _ rfl (fun h => ⟨zE_ne h, zE_ne h⟩) (fun h => by first | exact absurd h z1 | (rw [h]; exact ⟨rfl, rfl⟩))) rfl ?_
            conv => whnf
            split
            rotate_left
            · rename_i h
              exact absurd h (by simp)
            conv => whnf
            refine .mk _ _ _ _ _ (leL_refl _) (c_pair _ _ _ _ _ _ _ rfl (fun h => ⟨zE_ne h, zE_ne h⟩) (fun h => by first | exact absurd h z3 | (rw [h]; exact ⟨rfl, rfl⟩))) rfl ?_
            conv => whnf
            refine .mk _ _ _ _ _ (leL_refl _) (c_pair _ _ _ _ _ _ _ rfl (fun h => ⟨zE_ne h, zE_ne h⟩) (fun h => by first | exact absurd h z3 | (rw [h]; exact ⟨rfl, rfl⟩))) rfl ?_
            conv => whnf
            exact ⟨rfl, rfl⟩
          · rename_i q3
            have z3 : recS n x y z ≠ 0 := by simpa using q3
            conv => whnf
            refine .mk _ _ _ _ _ (leL_refl _) (c_number _ _ _ _ _ rfl (fun h => zE_ne h) (fun h => by first | exact absurd h z1 | exact (by rw [h, zE_0]; exact e1.symm))) rfl ?_
            conv => whnf
            refine .mk _ _ _ _ _ (leL_refl _) (c_pair _ _ _ _ _ _ _ rfl (fun h => ⟨zE_ne h, zE_ne h⟩) (fun h => by first | exact absurd h z1 | (rw [h]; exact ⟨rfl, rfl⟩))) rfl ?_
            conv => whnf
            split
            rotate_left
            · rename_i h
              exact absurd h (by simp)
            conv => whnf
            refine .mk _ _ _ _ _ (leL_refl _) (c_pair _ _ _ _ _ _ _ rfl (fun h => ⟨zE_ne h, zE_ne h⟩) (fun h => by first | exact absurd h z3 | (rw [h]; exact ⟨rfl, rfl⟩))) rfl ?_
            conv => whnf
            refine .mk _ _ _ _ _ (leL_refl _) (c_pair _ _ _ _ _ _ _ rfl (fun h => ⟨zE_ne h, zE_ne h⟩) (fun h => by first | exact absurd h z3 | (rw [h]; exact ⟨rfl, rfl⟩))) rfl ?_
            conv => whnf
            exact ⟨rfl, rfl⟩
      · rename_i q1
        have z1 : loadS p q r ≠ 0 := by simpa using q1
        conv => whnf
        split
        · rename_i q2
          exact absurd (show mergeE s t u = 0 by unfold mergeE; simpa using q2) w2
        · conv => whnf
          split
          · rename_i q3
            have z3 : recS n x y z = 0 := by simpa using q3
            obtain ⟨hn4, hv⟩ := recS_ok z3
            conv => whnf
            refine .mk _ _ _ _ _ (leL_refl _) (c_rRotating _ n hn4 x y z hv) rfl ?_
            conv => whnf
            refine .mk _ _ _ _ _ (leL_refl _) (c_rFixed _ n hn4 x y z hv) rfl ?_
            conv => whnf
            refine .mk _ _ _ _ _ (leL_refl _) (c_number _ _ _ _ _ rfl (fun h => zE_ne h) (fun h => by first | exact absurd h z1 | exact (by rw [h, zE_0]; exact e1.symm))) rfl ?_
            conv => whnf
            refine .mk _ _ _ _ _ (leL_refl _) (c_pair _ _ _ _ _ _ _ rfl (fun h => ⟨zE_ne h, zE_ne h⟩) (fun h => by first | exact absurd h z1 | (rw [h]; exact ⟨rfl, rfl⟩))) rfl ?_
            conv => whnf
            split
            rotate_left
            · rename_i h
              exact absurd h (by simp)
            conv => whnf
            refine .mk _ _ _ _ _ (leL_refl _) (c_pair _ _ _ _ _ _ _ rfl (fun h => ⟨zE_ne h, zE_ne h⟩) (fun h => by first | exact absurd h z3 | (rw [h]; exact ⟨rfl, rfl⟩))) rfl ?_
            conv => whnf
            refine .mk _ _ _ _ _ (leL_refl _) (c_pair _ _ _ _ _ _ _ rfl (fun h => ⟨zE_ne h, zE_ne h⟩) (fun h => by first | exact absurd h z3 | (rw [h]; exact ⟨rfl, rfl⟩))) rfl ?_
            conv => whnf
            exact ⟨rfl, rfl⟩
          · rename_i q3
            have z3 : recS n x y z ≠ 0 := by simpa using q3
            conv => whnf
            refine .mk _ _ _ _ _ (leL_refl _) (c_number _ _ _ _ _ rfl (fun h => zE_ne h) (fun h => by first | exact absurd h z1 | exact (by rw [h, zE_0]; exact e1.symm))) rfl ?_
            conv => whnf
            refine .mk _ _ _ _ _ (leL_refl _) (c_pair _ _ _ _ _ _ _ rfl (fun h => ⟨zE_ne h, zE_ne h⟩) (fun h => by first | exact absurd h z1 | (rw [h]; exact ⟨rfl, rfl⟩))) rfl ?_
            conv => whnf
            split
            rotate_left
            · rename_i h
              exact absurd h (by simp)
            conv => whnf
            refine .mk _ _ _ _ _ (leL_refl _) (c_pair _ _ _ _ _ _ _ rfl (fun h => ⟨zE_ne h, zE_ne h⟩) (fun h => by first | exact absurd h z3 | (rw [h]; exact ⟨rfl, rfl⟩))) rfl ?_
            conv => whnf
            refine .mk _ _ _ _ _ (leL_refl _) (c_pair _ _ _ _ _ _ _ rfl (fun h => ⟨zE_ne h, zE_ne h⟩) (fun h => by first | exact absurd h z3 | (rw [h]; exact ⟨rfl, rfl⟩))) rfl ?_
            conv => whnf
            exact ⟨rfl, rfl⟩
end Go.Proofs.YtllmejkmogepjaaDoor.Ix

/-
  IxSh2: pairs, loads, whole numbers that fit their shapes.
-/
namespace Go.Proofs.YtllmejkmogepjaaDoor.Ix

abbrev pairShp : Shp := .agg [(1, intS), (1, intS)]
abbrev tripShp : Shp := .agg [(1, intS), (1, intS), (1, intS)]

theorem fit_int {v : IV} (h : FitV intS v) : ∃ n, v = .int .i64 n := by
  obtain ⟨m, h, _⟩ := h
  exact ⟨m, (List.cons.inj h).1⟩

theorem fit_pair {v : IV} (h : FitV pairShp v) : ∃ a b, v = .agg [.int .i64 a, .int .i64 b] := by
  obtain ⟨xs, rfl, h⟩ := h
  have := fit_ints 2 xs h
  exact ⟨intAt xs 0, intAt xs 1, by rw [this]; simp [intAt, List.range, List.range.loop]⟩

theorem fit_trip {v : IV} (h : FitV tripShp v) : ∃ a b c, v = .agg [.int .i64 a, .int .i64 b, .int .i64 c] := by
  obtain ⟨xs, rfl, h⟩ := h
  have := fit_ints 3 xs h
  exact ⟨intAt xs 0, intAt xs 1, intAt xs 2, by rw [this]; simp [intAt, List.range, List.range.loop]⟩

theorem cells2 {ys : List IV} (h : Fit pairShp ys) : ∃ a b, ys = [.int .i64 a, .int .i64 b] := by
  have := fit_ints 2 ys h
  exact ⟨intAt ys 0, intAt ys 1, by rw [this]; simp [intAt, List.range, List.range.loop]⟩
theorem cells3 {ys : List IV} (h : Fit tripShp ys) : ∃ a b c, ys = [.int .i64 a, .int .i64 b, .int .i64 c] := by
  have := fit_ints 3 ys h
  exact ⟨intAt ys 0, intAt ys 1, intAt ys 2, by rw [this]; simp [intAt, List.range, List.range.loop]⟩
theorem cells1 {ys : List IV} (h : Fit intS ys) : ∃ a, ys = [.int .i64 a] := by
  obtain ⟨m, rfl, _⟩ := h
  exact ⟨m, rfl⟩

theorem fit_loads {v : IV} (h : FitV (.agg [(3, .agg [(1, intS), (1, intS), (1, intS)]), (1, intS), (2, .agg [(1, intS), (1, intS)])]) v) :
    ∃ p q r s t u, v = .agg [.int .i64 p, .int .i64 q, .int .i64 r, .int .i64 s, .int .i64 t, .int .i64 u] := by
  obtain ⟨xs, rfl, h⟩ := h
  simp only [FitL] at h
  obtain ⟨y1, z1, rfl, _, h1, y2, z2, rfl, _, h2, y3, z3, rfl, _, h3, rfl⟩ := h
  obtain ⟨p, q, r, rfl⟩ := cells3 h1
  obtain ⟨s, rfl⟩ := cells1 h2
  obtain ⟨t, u, rfl⟩ := cells2 h3
  exact ⟨p, q, r, s, t, u, rfl⟩

theorem fit_spot {v : IV} (h : FitV (.agg [(1, intS), (2, .agg [(1, intS), (1, intS)]), (1, intS), (1, intS)]) v) :
    ∃ p q r s t, v = .agg [.int .i64 p, .int .i64 q, .int .i64 r, .int .i64 s, .int .i64 t] := by
  obtain ⟨xs, rfl, h⟩ := h
  simp only [FitL] at h
  obtain ⟨y1, z1, rfl, _, h1, y2, z2, rfl, _, h2, y3, z3, rfl, _, h3, y4, z4, rfl, _, h4, rfl⟩ := h
  obtain ⟨p, rfl⟩ := cells1 h1
  obtain ⟨q, r, rfl⟩ := cells2 h2
  obtain ⟨s, rfl⟩ := cells1 h3
  obtain ⟨t, rfl⟩ := cells1 h4
  exact ⟨p, q, r, s, t, rfl⟩

theorem fit_quad {v : IV} (h : FitV (.agg [(1, intS), (1, intS), (1, intS), (1, intS)]) v) : ∃ p q r s, v = .agg [.int .i64 p, .int .i64 q, .int .i64 r, .int .i64 s] := by
  obtain ⟨xs, rfl, h⟩ := h
  have := fit_ints 4 xs h
  exact ⟨intAt xs 0, intAt xs 1, intAt xs 2, intAt xs 3, by rw [this]; simp [intAt, List.range, List.range.loop]⟩

theorem fit_slice3 {v : IV} (h : FitV (.slice 3 tripShp) v) : ∃ (n : Nat) (x y z : Nat → Int), n ≤ maxLen ∧ leV v (.lst none 3 n fun i => [.int .i64 (x i), .int .i64 (y i), .int .i64 (z i)]) := by
  obtain ⟨n, f, h, hn, hf⟩ := h
  obtain rfl := (List.cons.inj h).1
  refine ⟨n, fun i => intAt (f i) 0, fun i => intAt (f i) 1, fun i => intAt (f i) 2, hn, .inl rfl, rfl, rfl, fun i hi => ?_⟩
  obtain ⟨_, hf⟩ := hf i hi
  exact fit_ints 3 (f i) hf
end Go.Proofs.YtllmejkmogepjaaDoor.Ix
