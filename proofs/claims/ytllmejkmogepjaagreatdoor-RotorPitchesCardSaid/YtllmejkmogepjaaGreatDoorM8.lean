/-
  Lq1: RotorPitches: the law.
-/
import Derived.Test.YtllmejkmogepjaaGreatDoorM7
namespace Go.Proofs.YtllmejkmogepjaaGreatDoor.Ix
open Go.Proofs
set_option maxRecDepth 100000
set_option linter.unusedVariables false
set_option linter.unusedSimpArgs false
variable {gl : Nat → IV}

/-- What is read behind each call. -/
def lvPitches : List (Nat × List Nat) := [(18, [3, 4, 5, 6, 7, 8, 9, 10, 11, 18]), (23, [3, 4, 5, 6, 7, 8, 9, 10, 11, 20, 23]), (41, [3, 4, 5, 6, 7, 8, 9, 10, 11, 36, 41]), (52, [3, 4, 5, 6, 7, 8, 9, 10, 11, 52]), (55, [3, 4, 5, 6, 7, 8, 9, 10, 11, 55]), (63, [3, 4, 5, 6, 7, 8, 9, 10, 11, 63]), (69, [3, 4, 5, 6, 7, 8, 9, 10, 11, 69]), (79, [3, 4, 5, 6, 7, 8, 9, 10, 11, 79]), (83, [3, 4, 5, 6, 7, 8, 9, 10, 11, 83]), (85, [3, 4, 5, 6, 7, 8, 9, 10, 11, 83, 85]), (88, [3, 4, 5, 6, 7, 8, 9, 10, 11, 83, 85, 88]), (93, [3, 4, 5, 6, 7, 8, 9, 10, 11, 83, 85, 88, 93]), (95, [3, 4, 5, 6, 7, 8, 9, 10, 11, 95]), (99, [3, 4, 5, 6, 7, 8, 9, 10, 11, 12, 96, 99]), (101, [3, 4, 5, 6, 7, 8, 9, 10, 11, 12, 101]), (113, [3, 4, 5, 6, 7, 8, 9, 10, 11, 12, 13, 14, 15, 16, 17, 113]), (132, [6, 7, 8, 9, 10, 11, 12, 13, 14, 15, 16, 17, 132]), (141, [6, 8, 9, 10, 11, 12, 13, 15, 16, 141]), (147, [6, 10, 11, 13, 15, 142, 147]), (154, [6, 149, 154])]
theorem pitches_no (up : List Ces) (hr : gl g_rotor_roots = rootsI) (hp : gl g_internal_strconv_uint64pow10 = powI) (b : Bl) (f : Fl) (hs : lightB b f = false) (d x y m : Int) :
    Cs gl n_nacellelaw03_RotorPitches up [b.iv, f.iv, .agg [.int .i64 d, .int .i64 x, .int .i64 y, .int .i64 m]] (.bool true) up := by
  refine mk h_nacellelaw03_RotorPitches rfl rfl ?_
  have hS := fun up => c_light (gl := gl) up b f
  rw [hs] at hS
  have hA := fun up => c_awake (gl := gl) up hr hp
  conv => whnf
  repeat first
    | (show DRAW _ _ _ _ _; (first | refine .mk 0 (by decide +kernel) ?_ | refine .mk 1 (by decide +kernel) ?_ | refine .mk 2 (by decide +kernel) ?_ | refine .mk 3 (by decide +kernel) ?_ | refine .mk 4 (by decide +kernel) ?_ | refine .mk 5 (by decide +kernel) ?_ | refine .mk 6 (by decide +kernel) ?_ | refine .mk 7 (by decide +kernel) ?_ | refine .mk 8 (by decide +kernel) ?_ | refine .mk 9 (by decide +kernel) ?_ | refine .mk 10 (by decide +kernel) ?_ | refine .mk 11 (by decide +kernel) ?_ | refine .mk 12 (by decide +kernel) ?_ | refine .mk 13 (by decide +kernel) ?_ | refine .mk 14 (by decide +kernel) ?_ | refine .mk 15 (by decide +kernel) ?_ | refine .mk 16 (by decide +kernel) ?_ | refine .mk 17 (by decide +kernel) ?_ | refine .mk 18 (by decide +kernel) ?_ | refine .mk 19 (by decide +kernel) ?_ | refine .mk 20 (by decide +kernel) ?_ | refine .mk 21 (by decide +kernel) ?_ | refine .mk 22 (by decide +kernel) ?_ | refine .mk 23 (by decide +kernel) ?_ | refine .mk 24 (by decide +kernel) ?_ | refine .mk 25 (by decide +kernel) ?_ | refine .mk 26 (by decide +kernel) ?_ | refine .mk 27 (by decide +kernel) ?_ | refine .mk 28 (by decide +kernel) ?_ | refine .mk 29 (by decide +kernel) ?_ | refine .mk 30 (by decide +kernel) ?_ | refine .mk 31 (by decide +kernel) ?_ | refine .mk 32 (by decide +kernel) ?_ | refine .mk 33 (by decide +kernel) ?_ | refine .mk 34 (by decide +kernel) ?_ | refine .mk 35 (by decide +kernel) ?_ | refine .mk 36 (by decide +kernel) ?_ | refine .mk 37 (by decide +kernel) ?_ | refine .mk 38 (by decide +kernel) ?_ | refine .mk 39 (by decide +kernel) ?_ | refine .mk 40 (by decide +kernel) ?_ | refine .mk 41 (by decide +kernel) ?_); (conv => whnf))
    | (refine HOLD.mk (by first | exact trivial | exact ⟨⟨rfl, rfl⟩, trivial⟩ | exact ⟨⟨rfl, rfl⟩, ⟨rfl, rfl⟩, trivial⟩) ?_; (conv => whnf))
    | (refine CALL0.cutBy lvPitches _ _ _ _ _ (leL_refl _) (hA ..) rfl ?_; conv => whnf)
    | (refine CALL0.mk _ _ _ _ _ (leL_refl _) (hA ..) rfl ?_; conv => whnf)
    | (refine CALLQ.mk _ _ _ (leL_refl _) (hA ..) rfl ?_; conv => whnf)
    | (refine CALL0.cutBy lvPitches _ _ _ _ _ (leL_refl _) (hS ..) rfl ?_; conv => whnf)
    | (refine CALL0.mk _ _ _ _ _ (leL_refl _) (hS ..) rfl ?_; conv => whnf)
    | (refine CALLQ.mk _ _ _ (leL_refl _) (hS ..) rfl ?_; conv => whnf)
  exact ⟨rfl, rfl⟩

theorem pitches_stop1 (up : List Ces) (hr : gl g_rotor_roots = rootsI) (hp : gl g_internal_strconv_uint64pow10 = powI) (b : Bl) (f : Fl) (hs : lightB b f = true) (d x y m : Int) (q1 : decide (d > 6) = true) (q2 : decide (d ≤ 12) = true) :
    Cs gl n_nacellelaw03_RotorPitches up [b.iv, f.iv, .agg [.int .i64 d, .int .i64 x, .int .i64 y, .int .i64 m]] (.bool true) up := by
  refine mk h_nacellelaw03_RotorPitches rfl rfl ?_
  have hS := fun up => c_light (gl := gl) up b f
  rw [hs] at hS
  have hA := fun up => c_awake (gl := gl) up hr hp
  conv => whnf
  repeat first
    | (show DRAW _ _ _ _ _; (first | refine .mk 0 (by decide +kernel) ?_ | refine .mk 1 (by decide +kernel) ?_ | refine .mk 2 (by decide +kernel) ?_ | refine .mk 3 (by decide +kernel) ?_ | refine .mk 4 (by decide +kernel) ?_ | refine .mk 5 (by decide +kernel) ?_ | refine .mk 6 (by decide +kernel) ?_ | refine .mk 7 (by decide +kernel) ?_ | refine .mk 8 (by decide +kernel) ?_ | refine .mk 9 (by decide +kernel) ?_ | refine .mk 10 (by decide +kernel) ?_ | refine .mk 11 (by decide +kernel) ?_ | refine .mk 12 (by decide +kernel) ?_ | refine .mk 13 (by decide +kernel) ?_ | refine .mk 14 (by decide +kernel) ?_ | refine .mk 15 (by decide +kernel) ?_ | refine .mk 16 (by decide +kernel) ?_ | refine .mk 17 (by decide +kernel) ?_ | refine .mk 18 (by decide +kernel) ?_ | refine .mk 19 (by decide +kernel) ?_ | refine .mk 20 (by decide +kernel) ?_ | refine .mk 21 (by decide +kernel) ?_ | refine .mk 22 (by decide +kernel) ?_ | refine .mk 23 (by decide +kernel) ?_ | refine .mk 24 (by decide +kernel) ?_ | refine .mk 25 (by decide +kernel) ?_ | refine .mk 26 (by decide +kernel) ?_ | refine .mk 27 (by decide +kernel) ?_ | refine .mk 28 (by decide +kernel) ?_ | refine .mk 29 (by decide +kernel) ?_ | refine .mk 30 (by decide +kernel) ?_ | refine .mk 31 (by decide +kernel) ?_ | refine .mk 32 (by decide +kernel) ?_ | refine .mk 33 (by decide +kernel) ?_ | refine .mk 34 (by decide +kernel) ?_ | refine .mk 35 (by decide +kernel) ?_ | refine .mk 36 (by decide +kernel) ?_ | refine .mk 37 (by decide +kernel) ?_ | refine .mk 38 (by decide +kernel) ?_ | refine .mk 39 (by decide +kernel) ?_ | refine .mk 40 (by decide +kernel) ?_ | refine .mk 41 (by decide +kernel) ?_); (conv => whnf))
    | (refine HOLD.mk (by first | exact trivial | exact ⟨⟨rfl, rfl⟩, trivial⟩ | exact ⟨⟨rfl, rfl⟩, ⟨rfl, rfl⟩, trivial⟩) ?_; (conv => whnf))
    | (refine CALL0.cutBy lvPitches _ _ _ _ _ (leL_refl _) (hA ..) rfl ?_; conv => whnf)
    | (refine CALL0.mk _ _ _ _ _ (leL_refl _) (hA ..) rfl ?_; conv => whnf)
    | (refine CALLQ.mk _ _ _ (leL_refl _) (hA ..) rfl ?_; conv => whnf)
    | (refine CALL0.cutBy lvPitches _ _ _ _ _ (leL_refl _) (hS ..) rfl ?_; conv => whnf)
    | (refine CALL0.mk _ _ _ _ _ (leL_refl _) (hS ..) rfl ?_; conv => whnf)
    | (refine CALLQ.mk _ _ _ (leL_refl _) (hS ..) rfl ?_; conv => whnf)
  split
  rotate_left
  · rename_i h
    exact Bool.noConfusion ((q1).symm.trans h)
  rename_i hN
  clear hN
  conv => whnf
  split
  rotate_left
  · rename_i h
    exact Bool.noConfusion ((q2).symm.trans h)
  rename_i hN
  clear hN
  conv => whnf
  repeat first
    | (show DRAW _ _ _ _ _; (first | refine .mk 0 (by decide +kernel) ?_ | refine .mk 1 (by decide +kernel) ?_ | refine .mk 2 (by decide +kernel) ?_ | refine .mk 3 (by decide +kernel) ?_ | refine .mk 4 (by decide +kernel) ?_ | refine .mk 5 (by decide +kernel) ?_ | refine .mk 6 (by decide +kernel) ?_ | refine .mk 7 (by decide +kernel) ?_ | refine .mk 8 (by decide +kernel) ?_ | refine .mk 9 (by decide +kernel) ?_ | refine .mk 10 (by decide +kernel) ?_ | refine .mk 11 (by decide +kernel) ?_ | refine .mk 12 (by decide +kernel) ?_ | refine .mk 13 (by decide +kernel) ?_ | refine .mk 14 (by decide +kernel) ?_ | refine .mk 15 (by decide +kernel) ?_ | refine .mk 16 (by decide +kernel) ?_ | refine .mk 17 (by decide +kernel) ?_ | refine .mk 18 (by decide +kernel) ?_ | refine .mk 19 (by decide +kernel) ?_ | refine .mk 20 (by decide +kernel) ?_ | refine .mk 21 (by decide +kernel) ?_ | refine .mk 22 (by decide +kernel) ?_ | refine .mk 23 (by decide +kernel) ?_ | refine .mk 24 (by decide +kernel) ?_ | refine .mk 25 (by decide +kernel) ?_ | refine .mk 26 (by decide +kernel) ?_ | refine .mk 27 (by decide +kernel) ?_ | refine .mk 28 (by decide +kernel) ?_ | refine .mk 29 (by decide +kernel) ?_ | refine .mk 30 (by decide +kernel) ?_ | refine .mk 31 (by decide +kernel) ?_ | refine .mk 32 (by decide +kernel) ?_ | refine .mk 33 (by decide +kernel) ?_ | refine .mk 34 (by decide +kernel) ?_ | refine .mk 35 (by decide +kernel) ?_ | refine .mk 36 (by decide +kernel) ?_ | refine .mk 37 (by decide +kernel) ?_ | refine .mk 38 (by decide +kernel) ?_ | refine .mk 39 (by decide +kernel) ?_ | refine .mk 40 (by decide +kernel) ?_ | refine .mk 41 (by decide +kernel) ?_); (conv => whnf))
    | (refine HOLD.mk (by first | exact trivial | exact ⟨⟨rfl, rfl⟩, trivial⟩ | exact ⟨⟨rfl, rfl⟩, ⟨rfl, rfl⟩, trivial⟩) ?_; (conv => whnf))
    | (refine CALL0.cutBy lvPitches _ _ _ _ _ (leL_refl _) (hA ..) rfl ?_; conv => whnf)
    | (refine CALL0.mk _ _ _ _ _ (leL_refl _) (hA ..) rfl ?_; conv => whnf)
    | (refine CALLQ.mk _ _ _ (leL_refl _) (hA ..) rfl ?_; conv => whnf)
    | (refine CALL0.cutBy lvPitches _ _ _ _ _ (leL_refl _) (hS ..) rfl ?_; conv => whnf)
    | (refine CALL0.mk _ _ _ _ _ (leL_refl _) (hS ..) rfl ?_; conv => whnf)
    | (refine CALLQ.mk _ _ _ (leL_refl _) (hS ..) rfl ?_; conv => whnf)
  exact ⟨rfl, rfl⟩

theorem pitches_stop2 (up : List Ces) (hr : gl g_rotor_roots = rootsI) (hp : gl g_internal_strconv_uint64pow10 = powI) (b : Bl) (f : Fl) (hs : lightB b f = true) (d x y m : Int) (q1 : decide (d > 6) = false) (zP : pitchErr x y = 0) (q4 : decide (w64 (y - x) > 11) = true) :
    Cs gl n_nacellelaw03_RotorPitches up [b.iv, f.iv, .agg [.int .i64 d, .int .i64 x, .int .i64 y, .int .i64 m]] (.bool true) up := by
  refine mk h_nacellelaw03_RotorPitches rfl rfl ?_
  have hS := fun up => c_light (gl := gl) up b f
  rw [hs] at hS
  have hA := fun up => c_awake (gl := gl) up hr hp
  have hCP := fun up => c_rCheckPitches (gl := gl) up x y
  rw [zP] at hCP
  conv => whnf
  repeat first
    | (show DRAW _ _ _ _ _; (first | refine .mk 0 (by decide +kernel) ?_ | refine .mk 1 (by decide +kernel) ?_ | refine .mk 2 (by decide +kernel) ?_ | refine .mk 3 (by decide +kernel) ?_ | refine .mk 4 (by decide +kernel) ?_ | refine .mk 5 (by decide +kernel) ?_ | refine .mk 6 (by decide +kernel) ?_ | refine .mk 7 (by decide +kernel) ?_ | refine .mk 8 (by decide +kernel) ?_ | refine .mk 9 (by decide +kernel) ?_ | refine .mk 10 (by decide +kernel) ?_ | refine .mk 11 (by decide +kernel) ?_ | refine .mk 12 (by decide +kernel) ?_ | refine .mk 13 (by decide +kernel) ?_ | refine .mk 14 (by decide +kernel) ?_ | refine .mk 15 (by decide +kernel) ?_ | refine .mk 16 (by decide +kernel) ?_ | refine .mk 17 (by decide +kernel) ?_ | refine .mk 18 (by decide +kernel) ?_ | refine .mk 19 (by decide +kernel) ?_ | refine .mk 20 (by decide +kernel) ?_ | refine .mk 21 (by decide +kernel) ?_ | refine .mk 22 (by decide +kernel) ?_ | refine .mk 23 (by decide +kernel) ?_ | refine .mk 24 (by decide +kernel) ?_ | refine .mk 25 (by decide +kernel) ?_ | refine .mk 26 (by decide +kernel) ?_ | refine .mk 27 (by decide +kernel) ?_ | refine .mk 28 (by decide +kernel) ?_ | refine .mk 29 (by decide +kernel) ?_ | refine .mk 30 (by decide +kernel) ?_ | refine .mk 31 (by decide +kernel) ?_ | refine .mk 32 (by decide +kernel) ?_ | refine .mk 33 (by decide +kernel) ?_ | refine .mk 34 (by decide +kernel) ?_ | refine .mk 35 (by decide +kernel) ?_ | refine .mk 36 (by decide +kernel) ?_ | refine .mk 37 (by decide +kernel) ?_ | refine .mk 38 (by decide +kernel) ?_ | refine .mk 39 (by decide +kernel) ?_ | refine .mk 40 (by decide +kernel) ?_ | refine .mk 41 (by decide +kernel) ?_); (conv => whnf))
    | (refine HOLD.mk (by first | exact trivial | exact ⟨⟨rfl, rfl⟩, trivial⟩ | exact ⟨⟨rfl, rfl⟩, ⟨rfl, rfl⟩, trivial⟩) ?_; (conv => whnf))
    | (refine CALL0.cutBy lvPitches _ _ _ _ _ (leL_refl _) (hA ..) rfl ?_; conv => whnf)
    | (refine CALL0.mk _ _ _ _ _ (leL_refl _) (hA ..) rfl ?_; conv => whnf)
    | (refine CALLQ.mk _ _ _ (leL_refl _) (hA ..) rfl ?_; conv => whnf)
    | (refine CALL0.cutBy lvPitches _ _ _ _ _ (leL_refl _) (hS ..) rfl ?_; conv => whnf)
    | (refine CALL0.mk _ _ _ _ _ (leL_refl _) (hS ..) rfl ?_; conv => whnf)
    | (refine CALLQ.mk _ _ _ (leL_refl _) (hS ..) rfl ?_; conv => whnf)
  split
  · rename_i h
    exact Bool.noConfusion ((q1).symm.trans h)
  rename_i hN
  clear hN
  conv => whnf
  repeat first
    | (show DRAW _ _ _ _ _; (first | refine .mk 0 (by decide +kernel) ?_ | refine .mk 1 (by decide +kernel) ?_ | refine .mk 2 (by decide +kernel) ?_ | refine .mk 3 (by decide +kernel) ?_ | refine .mk 4 (by decide +kernel) ?_ | refine .mk 5 (by decide +kernel) ?_ | refine .mk 6 (by decide +kernel) ?_ | refine .mk 7 (by decide +kernel) ?_ | refine .mk 8 (by decide +kernel) ?_ | refine .mk 9 (by decide +kernel) ?_ | refine .mk 10 (by decide +kernel) ?_ | refine .mk 11 (by decide +kernel) ?_ | refine .mk 12 (by decide +kernel) ?_ | refine .mk 13 (by decide +kernel) ?_ | refine .mk 14 (by decide +kernel) ?_ | refine .mk 15 (by decide +kernel) ?_ | refine .mk 16 (by decide +kernel) ?_ | refine .mk 17 (by decide +kernel) ?_ | refine .mk 18 (by decide +kernel) ?_ | refine .mk 19 (by decide +kernel) ?_ | refine .mk 20 (by decide +kernel) ?_ | refine .mk 21 (by decide +kernel) ?_ | refine .mk 22 (by decide +kernel) ?_ | refine .mk 23 (by decide +kernel) ?_ | refine .mk 24 (by decide +kernel) ?_ | refine .mk 25 (by decide +kernel) ?_ | refine .mk 26 (by decide +kernel) ?_ | refine .mk 27 (by decide +kernel) ?_ | refine .mk 28 (by decide +kernel) ?_ | refine .mk 29 (by decide +kernel) ?_ | refine .mk 30 (by decide +kernel) ?_ | refine .mk 31 (by decide +kernel) ?_ | refine .mk 32 (by decide +kernel) ?_ | refine .mk 33 (by decide +kernel) ?_ | refine .mk 34 (by decide +kernel) ?_ | refine .mk 35 (by decide +kernel) ?_ | refine .mk 36 (by decide +kernel) ?_ | refine .mk 37 (by decide +kernel) ?_ | refine .mk 38 (by decide +kernel) ?_ | refine .mk 39 (by decide +kernel) ?_ | refine .mk 40 (by decide +kernel) ?_ | refine .mk 41 (by decide +kernel) ?_); (conv => whnf))
    | (refine HOLD.mk (by first | exact trivial | exact ⟨⟨rfl, rfl⟩, trivial⟩ | exact ⟨⟨rfl, rfl⟩, ⟨rfl, rfl⟩, trivial⟩) ?_; (conv => whnf))
    | (refine CALL0.cutBy lvPitches _ _ _ _ _ (leL_refl _) (hCP ..) rfl ?_; conv => whnf)
    | (refine CALL0.mk _ _ _ _ _ (leL_refl _) (hCP ..) rfl ?_; conv => whnf)
    | (refine CALLQ.mk _ _ _ (leL_refl _) (hCP ..) rfl ?_; conv => whnf)
  split
  rotate_left
  · rename_i h
    exact Bool.noConfusion ((q4).symm.trans h)
  rename_i hN
  clear hN
  conv => whnf
  repeat first
    | (show DRAW _ _ _ _ _; (first | refine .mk 0 (by decide +kernel) ?_ | refine .mk 1 (by decide +kernel) ?_ | refine .mk 2 (by decide +kernel) ?_ | refine .mk 3 (by decide +kernel) ?_ | refine .mk 4 (by decide +kernel) ?_ | refine .mk 5 (by decide +kernel) ?_ | refine .mk 6 (by decide +kernel) ?_ | refine .mk 7 (by decide +kernel) ?_ | refine .mk 8 (by decide +kernel) ?_ | refine .mk 9 (by decide +kernel) ?_ | refine .mk 10 (by decide +kernel) ?_ | refine .mk 11 (by decide +kernel) ?_ | refine .mk 12 (by decide +kernel) ?_ | refine .mk 13 (by decide +kernel) ?_ | refine .mk 14 (by decide +kernel) ?_ | refine .mk 15 (by decide +kernel) ?_ | refine .mk 16 (by decide +kernel) ?_ | refine .mk 17 (by decide +kernel) ?_ | refine .mk 18 (by decide +kernel) ?_ | refine .mk 19 (by decide +kernel) ?_ | refine .mk 20 (by decide +kernel) ?_ | refine .mk 21 (by decide +kernel) ?_ | refine .mk 22 (by decide +kernel) ?_ | refine .mk 23 (by decide +kernel) ?_ | refine .mk 24 (by decide +kernel) ?_ | refine .mk 25 (by decide +kernel) ?_ | refine .mk 26 (by decide +kernel) ?_ | refine .mk 27 (by decide +kernel) ?_ | refine .mk 28 (by decide +kernel) ?_ | refine .mk 29 (by decide +kernel) ?_ | refine .mk 30 (by decide +kernel) ?_ | refine .mk 31 (by decide +kernel) ?_ | refine .mk 32 (by decide +kernel) ?_ | refine .mk 33 (by decide +kernel) ?_ | refine .mk 34 (by decide +kernel) ?_ | refine .mk 35 (by decide +kernel) ?_ | refine .mk 36 (by decide +kernel) ?_ | refine .mk 37 (by decide +kernel) ?_ | refine .mk 38 (by decide +kernel) ?_ | refine .mk 39 (by decide +kernel) ?_ | refine .mk 40 (by decide +kernel) ?_ | refine .mk 41 (by decide +kernel) ?_); (conv => whnf))
    | (refine HOLD.mk (by first | exact trivial | exact ⟨⟨rfl, rfl⟩, trivial⟩ | exact ⟨⟨rfl, rfl⟩, ⟨rfl, rfl⟩, trivial⟩) ?_; (conv => whnf))
    | (refine CALL0.cutBy lvPitches _ _ _ _ _ (leL_refl _) (hA ..) rfl ?_; conv => whnf)
    | (refine CALL0.mk _ _ _ _ _ (leL_refl _) (hA ..) rfl ?_; conv => whnf)
    | (refine CALLQ.mk _ _ _ (leL_refl _) (hA ..) rfl ?_; conv => whnf)
    | (refine CALL0.cutBy lvPitches _ _ _ _ _ (leL_refl _) (hS ..) rfl ?_; conv => whnf)
    | (refine CALL0.mk _ _ _ _ _ (leL_refl _) (hS ..) rfl ?_; conv => whnf)
    | (refine CALLQ.mk _ _ _ (leL_refl _) (hS ..) rfl ?_; conv => whnf)
  exact ⟨rfl, rfl⟩

theorem pitches_stop3 (up : List Ces) (hr : gl g_rotor_roots = rootsI) (hp : gl g_internal_strconv_uint64pow10 = powI) (b : Bl) (f : Fl) (hs : lightB b f = true) (d x y m : Int) (q1 : decide (d > 6) = true) (q2 : decide (d ≤ 12) = false) (zP : pitchErr x y = 0) (q4 : decide (w64 (y - x) > 11) = true) :
    Cs gl n_nacellelaw03_RotorPitches up [b.iv, f.iv, .agg [.int .i64 d, .int .i64 x, .int .i64 y, .int .i64 m]] (.bool true) up := by
  refine mk h_nacellelaw03_RotorPitches rfl rfl ?_
  have hS := fun up => c_light (gl := gl) up b f
  rw [hs] at hS
  have hA := fun up => c_awake (gl := gl) up hr hp
  have hCP := fun up => c_rCheckPitches (gl := gl) up x y
  rw [zP] at hCP
  conv => whnf
  repeat first
    | (show DRAW _ _ _ _ _; (first | refine .mk 0 (by decide +kernel) ?_ | refine .mk 1 (by decide +kernel) ?_ | refine .mk 2 (by decide +kernel) ?_ | refine .mk 3 (by decide +kernel) ?_ | refine .mk 4 (by decide +kernel) ?_ | refine .mk 5 (by decide +kernel) ?_ | refine .mk 6 (by decide +kernel) ?_ | refine .mk 7 (by decide +kernel) ?_ | refine .mk 8 (by decide +kernel) ?_ | refine .mk 9 (by decide +kernel) ?_ | refine .mk 10 (by decide +kernel) ?_ | refine .mk 11 (by decide +kernel) ?_ | refine .mk 12 (by decide +kernel) ?_ | refine .mk 13 (by decide +kernel) ?_ | refine .mk 14 (by decide +kernel) ?_ | refine .mk 15 (by decide +kernel) ?_ | refine .mk 16 (by decide +kernel) ?_ | refine .mk 17 (by decide +kernel) ?_ | refine .mk 18 (by decide +kernel) ?_ | refine .mk 19 (by decide +kernel) ?_ | refine .mk 20 (by decide +kernel) ?_ | refine .mk 21 (by decide +kernel) ?_ | refine .mk 22 (by decide +kernel) ?_ | refine .mk 23 (by decide +kernel) ?_ | refine .mk 24 (by decide +kernel) ?_ | refine .mk 25 (by decide +kernel) ?_ | refine .mk 26 (by decide +kernel) ?_ | refine .mk 27 (by decide +kernel) ?_ | refine .mk 28 (by decide +kernel) ?_ | refine .mk 29 (by decide +kernel) ?_ | refine .mk 30 (by decide +kernel) ?_ | refine .mk 31 (by decide +kernel) ?_ | refine .mk 32 (by decide +kernel) ?_ | refine .mk 33 (by decide +kernel) ?_ | refine .mk 34 (by decide +kernel) ?_ | refine .mk 35 (by decide +kernel) ?_ | refine .mk 36 (by decide +kernel) ?_ | refine .mk 37 (by decide +kernel) ?_ | refine .mk 38 (by decide +kernel) ?_ | refine .mk 39 (by decide +kernel) ?_ | refine .mk 40 (by decide +kernel) ?_ | refine .mk 41 (by decide +kernel) ?_); (conv => whnf))
    | (refine HOLD.mk (by first | exact trivial | exact ⟨⟨rfl, rfl⟩, trivial⟩ | exact ⟨⟨rfl, rfl⟩, ⟨rfl, rfl⟩, trivial⟩) ?_; (conv => whnf))
    | (refine CALL0.cutBy lvPitches _ _ _ _ _ (leL_refl _) (hA ..) rfl ?_; conv => whnf)
    | (refine CALL0.mk _ _ _ _ _ (leL_refl _) (hA ..) rfl ?_; conv => whnf)
    | (refine CALLQ.mk _ _ _ (leL_refl _) (hA ..) rfl ?_; conv => whnf)
    | (refine CALL0.cutBy lvPitches _ _ _ _ _ (leL_refl _) (hS ..) rfl ?_; conv => whnf)
    | (refine CALL0.mk _ _ _ _ _ (leL_refl _) (hS ..) rfl ?_; conv => whnf)
    | (refine CALLQ.mk _ _ _ (leL_refl _) (hS ..) rfl ?_; conv => whnf)
  split
  rotate_left
  · rename_i h
    exact Bool.noConfusion ((q1).symm.trans h)
  rename_i hN
  clear hN
  conv => whnf
  split
  · rename_i h
    exact Bool.noConfusion ((q2).symm.trans h)
  rename_i hN
  clear hN
  conv => whnf
  repeat first
    | (show DRAW _ _ _ _ _; (first | refine .mk 0 (by decide +kernel) ?_ | refine .mk 1 (by decide +kernel) ?_ | refine .mk 2 (by decide +kernel) ?_ | refine .mk 3 (by decide +kernel) ?_ | refine .mk 4 (by decide +kernel) ?_ | refine .mk 5 (by decide +kernel) ?_ | refine .mk 6 (by decide +kernel) ?_ | refine .mk 7 (by decide +kernel) ?_ | refine .mk 8 (by decide +kernel) ?_ | refine .mk 9 (by decide +kernel) ?_ | refine .mk 10 (by decide +kernel) ?_ | refine .mk 11 (by decide +kernel) ?_ | refine .mk 12 (by decide +kernel) ?_ | refine .mk 13 (by decide +kernel) ?_ | refine .mk 14 (by decide +kernel) ?_ | refine .mk 15 (by decide +kernel) ?_ | refine .mk 16 (by decide +kernel) ?_ | refine .mk 17 (by decide +kernel) ?_ | refine .mk 18 (by decide +kernel) ?_ | refine .mk 19 (by decide +kernel) ?_ | refine .mk 20 (by decide +kernel) ?_ | refine .mk 21 (by decide +kernel) ?_ | refine .mk 22 (by decide +kernel) ?_ | refine .mk 23 (by decide +kernel) ?_ | refine .mk 24 (by decide +kernel) ?_ | refine .mk 25 (by decide +kernel) ?_ | refine .mk 26 (by decide +kernel) ?_ | refine .mk 27 (by decide +kernel) ?_ | refine .mk 28 (by decide +kernel) ?_ | refine .mk 29 (by decide +kernel) ?_ | refine .mk 30 (by decide +kernel) ?_ | refine .mk 31 (by decide +kernel) ?_ | refine .mk 32 (by decide +kernel) ?_ | refine .mk 33 (by decide +kernel) ?_ | refine .mk 34 (by decide +kernel) ?_ | refine .mk 35 (by decide +kernel) ?_ | refine .mk 36 (by decide +kernel) ?_ | refine .mk 37 (by decide +kernel) ?_ | refine .mk 38 (by decide +kernel) ?_ | refine .mk 39 (by decide +kernel) ?_ | refine .mk 40 (by decide +kernel) ?_ | refine .mk 41 (by decide +kernel) ?_); (conv => whnf))
    | (refine HOLD.mk (by first | exact trivial | exact ⟨⟨rfl, rfl⟩, trivial⟩ | exact ⟨⟨rfl, rfl⟩, ⟨rfl, rfl⟩, trivial⟩) ?_; (conv => whnf))
    | (refine CALL0.cutBy lvPitches _ _ _ _ _ (leL_refl _) (hCP ..) rfl ?_; conv => whnf)
    | (refine CALL0.mk _ _ _ _ _ (leL_refl _) (hCP ..) rfl ?_; conv => whnf)
    | (refine CALLQ.mk _ _ _ (leL_refl _) (hCP ..) rfl ?_; conv => whnf)
  split
  rotate_left
  · rename_i h
    exact Bool.noConfusion ((q4).symm.trans h)
  rename_i hN
  clear hN
  conv => whnf
  repeat first
    | (show DRAW _ _ _ _ _; (first | refine .mk 0 (by decide +kernel) ?_ | refine .mk 1 (by decide +kernel) ?_ | refine .mk 2 (by decide +kernel) ?_ | refine .mk 3 (by decide +kernel) ?_ | refine .mk 4 (by decide +kernel) ?_ | refine .mk 5 (by decide +kernel) ?_ | refine .mk 6 (by decide +kernel) ?_ | refine .mk 7 (by decide +kernel) ?_ | refine .mk 8 (by decide +kernel) ?_ | refine .mk 9 (by decide +kernel) ?_ | refine .mk 10 (by decide +kernel) ?_ | refine .mk 11 (by decide +kernel) ?_ | refine .mk 12 (by decide +kernel) ?_ | refine .mk 13 (by decide +kernel) ?_ | refine .mk 14 (by decide +kernel) ?_ | refine .mk 15 (by decide +kernel) ?_ | refine .mk 16 (by decide +kernel) ?_ | refine .mk 17 (by decide +kernel) ?_ | refine .mk 18 (by decide +kernel) ?_ | refine .mk 19 (by decide +kernel) ?_ | refine .mk 20 (by decide +kernel) ?_ | refine .mk 21 (by decide +kernel) ?_ | refine .mk 22 (by decide +kernel) ?_ | refine .mk 23 (by decide +kernel) ?_ | refine .mk 24 (by decide +kernel) ?_ | refine .mk 25 (by decide +kernel) ?_ | refine .mk 26 (by decide +kernel) ?_ | refine .mk 27 (by decide +kernel) ?_ | refine .mk 28 (by decide +kernel) ?_ | refine .mk 29 (by decide +kernel) ?_ | refine .mk 30 (by decide +kernel) ?_ | refine .mk 31 (by decide +kernel) ?_ | refine .mk 32 (by decide +kernel) ?_ | refine .mk 33 (by decide +kernel) ?_ | refine .mk 34 (by decide +kernel) ?_ | refine .mk 35 (by decide +kernel) ?_ | refine .mk 36 (by decide +kernel) ?_ | refine .mk 37 (by decide +kernel) ?_ | refine .mk 38 (by decide +kernel) ?_ | refine .mk 39 (by decide +kernel) ?_ | refine .mk 40 (by decide +kernel) ?_ | refine .mk 41 (by decide +kernel) ?_); (conv => whnf))
    | (refine HOLD.mk (by first | exact trivial | exact ⟨⟨rfl, rfl⟩, trivial⟩ | exact ⟨⟨rfl, rfl⟩, ⟨rfl, rfl⟩, trivial⟩) ?_; (conv => whnf))
    | (refine CALL0.cutBy lvPitches _ _ _ _ _ (leL_refl _) (hA ..) rfl ?_; conv => whnf)
    | (refine CALL0.mk _ _ _ _ _ (leL_refl _) (hA ..) rfl ?_; conv => whnf)
    | (refine CALLQ.mk _ _ _ (leL_refl _) (hA ..) rfl ?_; conv => whnf)
    | (refine CALL0.cutBy lvPitches _ _ _ _ _ (leL_refl _) (hS ..) rfl ?_; conv => whnf)
    | (refine CALL0.mk _ _ _ _ _ (leL_refl _) (hS ..) rfl ?_; conv => whnf)
    | (refine CALLQ.mk _ _ _ (leL_refl _) (hS ..) rfl ?_; conv => whnf)
  exact ⟨rfl, rfl⟩

set_option maxHeartbeats 8000000 in
theorem pitches_bad1 (up : List Ces) (hr : gl g_rotor_roots = rootsI) (hp : gl g_internal_strconv_uint64pow10 = powI) (b : Bl) (f : Fl) (hs : lightB b f = true) (d x y m E : Int) (hEE : E = bestErr b f d x y) (zE : E ≠ 0) (q1 : decide (d > 6) = false) (zP : pitchErr x y = 0) (q4 : decide (w64 (y - x) > 11) = false) :
    Cs gl n_nacellelaw03_RotorPitches up [b.iv, f.iv, .agg [.int .i64 d, .int .i64 x, .int .i64 y, .int .i64 m]] (.bool true) up := by
  have hsh : b.short = true := by
    unfold lightB at hs
    simp only [Bool.and_eq_true] at hs
    exact hs.1
  obtain ⟨hl, hd, hn⟩ := short_le hsh
  have hS := fun up => c_light (gl := gl) up b f
  rw [hs] at hS
  have hA := fun up => c_awake (gl := gl) up hr hp
  have hb := fun up => c_blade (gl := gl) up b hl hd hn
  have hf4 := fun up => c_rfl4 (gl := gl) up b.err f.err (withinS d 1 12) (pitchErr x y)
  have hE := fun up => c_rCheckBlade (gl := gl) up b
  have hFl := fun up => c_rCheckFlow (gl := gl) up f.w f.s f.p
  have hB := fun up => c_Best (gl := gl) up b f d x y
  have hL := fun up => c_Limit (gl := gl) up b f d x y m
  have hCP := fun up => c_rCheckPitches (gl := gl) up x y
  have eE : orE b.err (orE f.err (orE (withinS d 1 12) (pitchErr x y))) = E := by
    rw [hEE]; unfold bestErr allErr
    rw [orE_assoc, orE_assoc]
  rw [eE] at hf4
  have zE' : (E != 0) = true := by simpa using zE
  have hf2 := fun up => c_rfl2 (gl := gl) up E (withinS m (-1152921504606846976) 1152921504606846976)
  rw [orE_pos zE'] at hf2
  have e1 : bestR b f d x y = .tup [.int .i64 0, .agg [.int .i64 0, .int .i64 0], .int .i64 E] := by
    unfold bestR
    rw [← hEE, zE']; rfl
  have e2 : limErr b f d x y m = E := by
    have : limErr b f d x y m = orE (bestErr b f d x y) (withinS m (-1152921504606846976) 1152921504606846976) := by
      unfold limErr bestErr; rw [orE_assoc]
    rw [this, ← hEE, orE_pos zE']
  have e3 : limR b f d x y m = .tup [.int .i64 0, .int .i64 E] := by
    unfold limR
    rw [e2, zE']; rfl
  rw [e1] at hB
  rw [e3] at hL
  have hnu := fun up => c_number (gl := gl) up 0 E E 0 rfl (fun _ => rfl) (fun _ => rfl)
  have hsp := fun up => c_span (gl := gl) up 0 0 E E 0 0 rfl (fun _ => ⟨rfl, rfl⟩) (fun h => absurd h zE)
  have hCR := fun up => c_CheckRange (gl := gl) up m (-1152921504606846976) 1152921504606846976
  have q5 : (E == 0) = false := by simpa using zE
  rw [zP] at hCP hf4
  refine mk h_nacellelaw03_RotorPitches rfl rfl ?_
  conv => whnf
  repeat first
    | (show DRAW _ _ _ _ _; (first | refine .mk 0 (by decide +kernel) ?_ | refine .mk 1 (by decide +kernel) ?_ | refine .mk 2 (by decide +kernel) ?_ | refine .mk 3 (by decide +kernel) ?_ | refine .mk 4 (by decide +kernel) ?_ | refine .mk 5 (by decide +kernel) ?_ | refine .mk 6 (by decide +kernel) ?_ | refine .mk 7 (by decide +kernel) ?_ | refine .mk 8 (by decide +kernel) ?_ | refine .mk 9 (by decide +kernel) ?_ | refine .mk 10 (by decide +kernel) ?_ | refine .mk 11 (by decide +kernel) ?_ | refine .mk 12 (by decide +kernel) ?_ | refine .mk 13 (by decide +kernel) ?_ | refine .mk 14 (by decide +kernel) ?_ | refine .mk 15 (by decide +kernel) ?_ | refine .mk 16 (by decide +kernel) ?_ | refine .mk 17 (by decide +kernel) ?_ | refine .mk 18 (by decide +kernel) ?_ | refine .mk 19 (by decide +kernel) ?_ | refine .mk 20 (by decide +kernel) ?_ | refine .mk 21 (by decide +kernel) ?_ | refine .mk 22 (by decide +kernel) ?_ | refine .mk 23 (by decide +kernel) ?_ | refine .mk 24 (by decide +kernel) ?_ | refine .mk 25 (by decide +kernel) ?_ | refine .mk 26 (by decide +kernel) ?_ | refine .mk 27 (by decide +kernel) ?_ | refine .mk 28 (by decide +kernel) ?_ | refine .mk 29 (by decide +kernel) ?_ | refine .mk 30 (by decide +kernel) ?_ | refine .mk 31 (by decide +kernel) ?_ | refine .mk 32 (by decide +kernel) ?_ | refine .mk 33 (by decide +kernel) ?_ | refine .mk 34 (by decide +kernel) ?_ | refine .mk 35 (by decide +kernel) ?_ | refine .mk 36 (by decide +kernel) ?_ | refine .mk 37 (by decide +kernel) ?_ | refine .mk 38 (by decide +kernel) ?_ | refine .mk 39 (by decide +kernel) ?_ | refine .mk 40 (by decide +kernel) ?_ | refine .mk 41 (by decide +kernel) ?_); (conv => whnf))
    | (refine HOLD.mk (by first | exact trivial | exact ⟨⟨rfl, rfl⟩, trivial⟩ | exact ⟨⟨rfl, rfl⟩, ⟨rfl, rfl⟩, trivial⟩) ?_; (conv => whnf))
    | (refine CALL0.cutBy lvPitches _ _ _ _ _ (leL_refl _) (hA ..) rfl ?_; conv => whnf)
    | (refine CALL0.mk _ _ _ _ _ (leL_refl _) (hA ..) rfl ?_; conv => whnf)
    | (refine CALLQ.mk _ _ _ (leL_refl _) (hA ..) rfl ?_; conv => whnf)
    | (refine CALL0.cutBy lvPitches _ _ _ _ _ (leL_refl _) (hS ..) rfl ?_; conv => whnf)
    | (refine CALL0.mk _ _ _ _ _ (leL_refl _) (hS ..) rfl ?_; conv => whnf)
    | (refine CALLQ.mk _ _ _ (leL_refl _) (hS ..) rfl ?_; conv => whnf)
  split
  · rename_i h
    exact Bool.noConfusion ((q1).symm.trans h)
  rename_i hN
  clear hN
  conv => whnf
  repeat first
    | (show DRAW _ _ _ _ _; (first | refine .mk 0 (by decide +kernel) ?_ | refine .mk 1 (by decide +kernel) ?_ | refine .mk 2 (by decide +kernel) ?_ | refine .mk 3 (by decide +kernel) ?_ | refine .mk 4 (by decide +kernel) ?_ | refine .mk 5 (by decide +kernel) ?_ | refine .mk 6 (by decide +kernel) ?_ | refine .mk 7 (by decide +kernel) ?_ | refine .mk 8 (by decide +kernel) ?_ | refine .mk 9 (by decide +kernel) ?_ | refine .mk 10 (by decide +kernel) ?_ | refine .mk 11 (by decide +kernel) ?_ | refine .mk 12 (by decide +kernel) ?_ | refine .mk 13 (by decide +kernel) ?_ | refine .mk 14 (by decide +kernel) ?_ | refine .mk 15 (by decide +kernel) ?_ | refine .mk 16 (by decide +kernel) ?_ | refine .mk 17 (by decide +kernel) ?_ | refine .mk 18 (by decide +kernel) ?_ | refine .mk 19 (by decide +kernel) ?_ | refine .mk 20 (by decide +kernel) ?_ | refine .mk 21 (by decide +kernel) ?_ | refine .mk 22 (by decide +kernel) ?_ | refine .mk 23 (by decide +kernel) ?_ | refine .mk 24 (by decide +kernel) ?_ | refine .mk 25 (by decide +kernel) ?_ | refine .mk 26 (by decide +kernel) ?_ | refine .mk 27 (by decide +kernel) ?_ | refine .mk 28 (by decide +kernel) ?_ | refine .mk 29 (by decide +kernel) ?_ | refine .mk 30 (by decide +kernel) ?_ | refine .mk 31 (by decide +kernel) ?_ | refine .mk 32 (by decide +kernel) ?_ | refine .mk 33 (by decide +kernel) ?_ | refine .mk 34 (by decide +kernel) ?_ | refine .mk 35 (by decide +kernel) ?_ | refine .mk 36 (by decide +kernel) ?_ | refine .mk 37 (by decide +kernel) ?_ | refine .mk 38 (by decide +kernel) ?_ | refine .mk 39 (by decide +kernel) ?_ | refine .mk 40 (by decide +kernel) ?_ | refine .mk 41 (by decide +kernel) ?_); (conv => whnf))
    | (refine HOLD.mk (by first | exact trivial | exact ⟨⟨rfl, rfl⟩, trivial⟩ | exact ⟨⟨rfl, rfl⟩, ⟨rfl, rfl⟩, trivial⟩) ?_; (conv => whnf))
    | (refine CALL0.cutBy lvPitches _ _ _ _ _ (leL_refl _) (hCP ..) rfl ?_; conv => whnf)
    | (refine CALL0.mk _ _ _ _ _ (leL_refl _) (hCP ..) rfl ?_; conv => whnf)
    | (refine CALLQ.mk _ _ _ (leL_refl _) (hCP ..) rfl ?_; conv => whnf)
  split
  · rename_i h
    exact Bool.noConfusion ((q4).symm.trans h)
  rename_i hN
  clear hN
  conv => whnf
  repeat first
    | (show DRAW _ _ _ _ _; (first | refine .mk 0 (by decide +kernel) ?_ | refine .mk 1 (by decide +kernel) ?_ | refine .mk 2 (by decide +kernel) ?_ | refine .mk 3 (by decide +kernel) ?_ | refine .mk 4 (by decide +kernel) ?_ | refine .mk 5 (by decide +kernel) ?_ | refine .mk 6 (by decide +kernel) ?_ | refine .mk 7 (by decide +kernel) ?_ | refine .mk 8 (by decide +kernel) ?_ | refine .mk 9 (by decide +kernel) ?_ | refine .mk 10 (by decide +kernel) ?_ | refine .mk 11 (by decide +kernel) ?_ | refine .mk 12 (by decide +kernel) ?_ | refine .mk 13 (by decide +kernel) ?_ | refine .mk 14 (by decide +kernel) ?_ | refine .mk 15 (by decide +kernel) ?_ | refine .mk 16 (by decide +kernel) ?_ | refine .mk 17 (by decide +kernel) ?_ | refine .mk 18 (by decide +kernel) ?_ | refine .mk 19 (by decide +kernel) ?_ | refine .mk 20 (by decide +kernel) ?_ | refine .mk 21 (by decide +kernel) ?_ | refine .mk 22 (by decide +kernel) ?_ | refine .mk 23 (by decide +kernel) ?_ | refine .mk 24 (by decide +kernel) ?_ | refine .mk 25 (by decide +kernel) ?_ | refine .mk 26 (by decide +kernel) ?_ | refine .mk 27 (by decide +kernel) ?_ | refine .mk 28 (by decide +kernel) ?_ | refine .mk 29 (by decide +kernel) ?_ | refine .mk 30 (by decide +kernel) ?_ | refine .mk 31 (by decide +kernel) ?_ | refine .mk 32 (by decide +kernel) ?_ | refine .mk 33 (by decide +kernel) ?_ | refine .mk 34 (by decide +kernel) ?_ | refine .mk 35 (by decide +kernel) ?_ | refine .mk 36 (by decide +kernel) ?_ | refine .mk 37 (by decide +kernel) ?_ | refine .mk 38 (by decide +kernel) ?_ | refine .mk 39 (by decide +kernel) ?_ | refine .mk 40 (by decide +kernel) ?_ | refine .mk 41 (by decide +kernel) ?_); (conv => whnf))
    | (refine HOLD.mk (by first | exact trivial | exact ⟨⟨rfl, rfl⟩, trivial⟩ | exact ⟨⟨rfl, rfl⟩, ⟨rfl, rfl⟩, trivial⟩) ?_; (conv => whnf))
    | (refine CALL0.cutBy lvPitches _ _ _ _ _ (leL_refl _) (hb ..) rfl ?_; conv => whnf)
    | (refine CALL0.mk _ _ _ _ _ (leL_refl _) (hb ..) rfl ?_; conv => whnf)
    | (refine CALLQ.mk _ _ _ (leL_refl _) (hb ..) rfl ?_; conv => whnf)
    | (refine CALL0.cutBy lvPitches _ _ _ _ _ (leL_refl _) (hB ..) rfl ?_; conv => whnf)
    | (refine CALL0.mk _ _ _ _ _ (leL_refl _) (hB ..) rfl ?_; conv => whnf)
    | (refine CALLQ.mk _ _ _ (leL_refl _) (hB ..) rfl ?_; conv => whnf)
    | (refine CALL0.cutBy lvPitches _ _ _ _ _ (leL_refl _) (hL ..) rfl ?_; conv => whnf)
    | (refine CALL0.mk _ _ _ _ _ (leL_refl _) (hL ..) rfl ?_; conv => whnf)
    | (refine CALLQ.mk _ _ _ (leL_refl _) (hL ..) rfl ?_; conv => whnf)
    | (refine CALL0.cutBy lvPitches _ _ _ _ _ (leL_refl _) (hE ..) rfl ?_; conv => whnf)
    | (refine CALL0.mk _ _ _ _ _ (leL_refl _) (hE ..) rfl ?_; conv => whnf)
    | (refine CALLQ.mk _ _ _ (leL_refl _) (hE ..) rfl ?_; conv => whnf)
    | (refine CALL0.cutBy lvPitches _ _ _ _ _ (leL_refl _) (hFl ..) rfl ?_; conv => whnf)
    | (refine CALL0.mk _ _ _ _ _ (leL_refl _) (hFl ..) rfl ?_; conv => whnf)
    | (refine CALLQ.mk _ _ _ (leL_refl _) (hFl ..) rfl ?_; conv => whnf)
    | (refine CALL0.cutBy lvPitches _ _ _ _ _ (leL_refl _) (c_rCheckDepth ..) rfl ?_; conv => whnf)
    | (refine CALL0.mk _ _ _ _ _ (leL_refl _) (c_rCheckDepth ..) rfl ?_; conv => whnf)
    | (refine CALLQ.mk _ _ _ (leL_refl _) (c_rCheckDepth ..) rfl ?_; conv => whnf)
    | (refine CALL0.cutBy lvPitches _ _ _ _ _ (leL_refl _) (hCP ..) rfl ?_; conv => whnf)
    | (refine CALL0.mk _ _ _ _ _ (leL_refl _) (hCP ..) rfl ?_; conv => whnf)
    | (refine CALLQ.mk _ _ _ (leL_refl _) (hCP ..) rfl ?_; conv => whnf)
    | (refine CALL0.cutBy lvPitches _ _ _ _ _ (leL_refl _) (hf4 ..) rfl ?_; conv => whnf)
    | (refine CALL0.mk _ _ _ _ _ (leL_refl _) (hf4 ..) rfl ?_; conv => whnf)
    | (refine CALLQ.mk _ _ _ (leL_refl _) (hf4 ..) rfl ?_; conv => whnf)
    | (refine CALL0.cutBy lvPitches _ _ _ _ _ (leL_refl _) (hCR ..) rfl ?_; conv => whnf)
    | (refine CALL0.mk _ _ _ _ _ (leL_refl _) (hCR ..) rfl ?_; conv => whnf)
    | (refine CALLQ.mk _ _ _ (leL_refl _) (hCR ..) rfl ?_; conv => whnf)
    | (refine CALL0.cutBy lvPitches _ _ _ _ _ (leL_refl _) (hf2 ..) rfl ?_; conv => whnf)
    | (refine CALL0.mk _ _ _ _ _ (leL_refl _) (hf2 ..) rfl ?_; conv => whnf)
    | (refine CALLQ.mk _ _ _ (leL_refl _) (hf2 ..) rfl ?_; conv => whnf)
  split
  · rename_i h
    exact Bool.noConfusion ((q5).symm.trans h)
  rename_i hN
  clear hN
  conv => whnf
  split
  · rename_i h
    exact Bool.noConfusion ((q5).symm.trans h)
  rename_i hN
  clear hN
  conv => whnf
  repeat first
    | (show DRAW _ _ _ _ _; (first | refine .mk 0 (by decide +kernel) ?_ | refine .mk 1 (by decide +kernel) ?_ | refine .mk 2 (by decide +kernel) ?_ | refine .mk 3 (by decide +kernel) ?_ | refine .mk 4 (by decide +kernel) ?_ | refine .mk 5 (by decide +kernel) ?_ | refine .mk 6 (by decide +kernel) ?_ | refine .mk 7 (by decide +kernel) ?_ | refine .mk 8 (by decide +kernel) ?_ | refine .mk 9 (by decide +kernel) ?_ | refine .mk 10 (by decide +kernel) ?_ | refine .mk 11 (by decide +kernel) ?_ | refine .mk 12 (by decide +kernel) ?_ | refine .mk 13 (by decide +kernel) ?_ | refine .mk 14 (by decide +kernel) ?_ | refine .mk 15 (by decide +kernel) ?_ | refine .mk 16 (by decide +kernel) ?_ | refine .mk 17 (by decide +kernel) ?_ | refine .mk 18 (by decide +kernel) ?_ | refine .mk 19 (by decide +kernel) ?_ | refine .mk 20 (by decide +kernel) ?_ | refine .mk 21 (by decide +kernel) ?_ | refine .mk 22 (by decide +kernel) ?_ | refine .mk 23 (by decide +kernel) ?_ | refine .mk 24 (by decide +kernel) ?_ | refine .mk 25 (by decide +kernel) ?_ | refine .mk 26 (by decide +kernel) ?_ | refine .mk 27 (by decide +kernel) ?_ | refine .mk 28 (by decide +kernel) ?_ | refine .mk 29 (by decide +kernel) ?_ | refine .mk 30 (by decide +kernel) ?_ | refine .mk 31 (by decide +kernel) ?_ | refine .mk 32 (by decide +kernel) ?_ | refine .mk 33 (by decide +kernel) ?_ | refine .mk 34 (by decide +kernel) ?_ | refine .mk 35 (by decide +kernel) ?_ | refine .mk 36 (by decide +kernel) ?_ | refine .mk 37 (by decide +kernel) ?_ | refine .mk 38 (by decide +kernel) ?_ | refine .mk 39 (by decide +kernel) ?_ | refine .mk 40 (by decide +kernel) ?_ | refine .mk 41 (by decide +kernel) ?_); (conv => whnf))
    | (refine HOLD.mk (by first | exact trivial | exact ⟨⟨rfl, rfl⟩, trivial⟩ | exact ⟨⟨rfl, rfl⟩, ⟨rfl, rfl⟩, trivial⟩) ?_; (conv => whnf))
    | (refine CALL0.cutBy lvPitches _ _ _ _ _ (leL_refl _) (hnu ..) rfl ?_; conv => whnf)
    | (refine CALL0.mk _ _ _ _ _ (leL_refl _) (hnu ..) rfl ?_; conv => whnf)
    | (refine CALLQ.mk _ _ _ (leL_refl _) (hnu ..) rfl ?_; conv => whnf)
    | (refine CALL0.cutBy lvPitches _ _ _ _ _ (leL_refl _) (hsp ..) rfl ?_; conv => whnf)
    | (refine CALL0.mk _ _ _ _ _ (leL_refl _) (hsp ..) rfl ?_; conv => whnf)
    | (refine CALLQ.mk _ _ _ (leL_refl _) (hsp ..) rfl ?_; conv => whnf)
  repeat first
    | exact ⟨rfl, rfl⟩
    | (split; rotate_left; (rename_i hz; exact absurd hz (by simp [zE])); (conv => whnf))
    | exact ⟨by simp [zE], rfl⟩
set_option maxHeartbeats 8000000 in
theorem pitches_bad2 (up : List Ces) (hr : gl g_rotor_roots = rootsI) (hp : gl g_internal_strconv_uint64pow10 = powI) (b : Bl) (f : Fl) (hs : lightB b f = true) (d x y m E : Int) (hEE : E = bestErr b f d x y) (zE : E ≠ 0) (q1 : decide (d > 6) = false) (zP : (pitchErr x y == 0) = false) :
    Cs gl n_nacellelaw03_RotorPitches up [b.iv, f.iv, .agg [.int .i64 d, .int .i64 x, .int .i64 y, .int .i64 m]] (.bool true) up := by
  have hsh : b.short = true := by
    unfold lightB at hs
    simp only [Bool.and_eq_true] at hs
    exact hs.1
  obtain ⟨hl, hd, hn⟩ := short_le hsh
  have hS := fun up => c_light (gl := gl) up b f
  rw [hs] at hS
  have hA := fun up => c_awake (gl := gl) up hr hp
  have hb := fun up => c_blade (gl := gl) up b hl hd hn
  have hf4 := fun up => c_rfl4 (gl := gl) up b.err f.err (withinS d 1 12) (pitchErr x y)
  have hE := fun up => c_rCheckBlade (gl := gl) up b
  have hFl := fun up => c_rCheckFlow (gl := gl) up f.w f.s f.p
  have hB := fun up => c_Best (gl := gl) up b f d x y
  have hL := fun up => c_Limit (gl := gl) up b f d x y m
  have hCP := fun up => c_rCheckPitches (gl := gl) up x y
  have eE : orE b.err (orE f.err (orE (withinS d 1 12) (pitchErr x y))) = E := by
    rw [hEE]; unfold bestErr allErr
    rw [orE_assoc, orE_assoc]
  rw [eE] at hf4
  have zE' : (E != 0) = true := by simpa using zE
  have hf2 := fun up => c_rfl2 (gl := gl) up E (withinS m (-1152921504606846976) 1152921504606846976)
  rw [orE_pos zE'] at hf2
  have e1 : bestR b f d x y = .tup [.int .i64 0, .agg [.int .i64 0, .int .i64 0], .int .i64 E] := by
    unfold bestR
    rw [← hEE, zE']; rfl
  have e2 : limErr b f d x y m = E := by
    have : limErr b f d x y m = orE (bestErr b f d x y) (withinS m (-1152921504606846976) 1152921504606846976) := by
      unfold limErr bestErr; rw [orE_assoc]
    rw [this, ← hEE, orE_pos zE']
  have e3 : limR b f d x y m = .tup [.int .i64 0, .int .i64 E] := by
    unfold limR
    rw [e2, zE']; rfl
  rw [e1] at hB
  rw [e3] at hL
  have hnu := fun up => c_number (gl := gl) up 0 E E 0 rfl (fun _ => rfl) (fun _ => rfl)
  have hsp := fun up => c_span (gl := gl) up 0 0 E E 0 0 rfl (fun _ => ⟨rfl, rfl⟩) (fun h => absurd h zE)
  have hCR := fun up => c_CheckRange (gl := gl) up m (-1152921504606846976) 1152921504606846976
  have q5 : (E == 0) = false := by simpa using zE
  refine mk h_nacellelaw03_RotorPitches rfl rfl ?_
  conv => whnf
  repeat first
    | (show DRAW _ _ _ _ _; (first | refine .mk 0 (by decide +kernel) ?_ | refine .mk 1 (by decide +kernel) ?_ | refine .mk 2 (by decide +kernel) ?_ | refine .mk 3 (by decide +kernel) ?_ | refine .mk 4 (by decide +kernel) ?_ | refine .mk 5 (by decide +kernel) ?_ | refine .mk 6 (by decide +kernel) ?_ | refine .mk 7 (by decide +kernel) ?_ | refine .mk 8 (by decide +kernel) ?_ | refine .mk 9 (by decide +kernel) ?_ | refine .mk 10 (by decide +kernel) ?_ | refine .mk 11 (by decide +kernel) ?_ | refine .mk 12 (by decide +kernel) ?_ | refine .mk 13 (by decide +kernel) ?_ | refine .mk 14 (by decide +kernel) ?_ | refine .mk 15 (by decide +kernel) ?_ | refine .mk 16 (by decide +kernel) ?_ | refine .mk 17 (by decide +kernel) ?_ | refine .mk 18 (by decide +kernel) ?_ | refine .mk 19 (by decide +kernel) ?_ | refine .mk 20 (by decide +kernel) ?_ | refine .mk 21 (by decide +kernel) ?_ | refine .mk 22 (by decide +kernel) ?_ | refine .mk 23 (by decide +kernel) ?_ | refine .mk 24 (by decide +kernel) ?_ | refine .mk 25 (by decide +kernel) ?_ | refine .mk 26 (by decide +kernel) ?_ | refine .mk 27 (by decide +kernel) ?_ | refine .mk 28 (by decide +kernel) ?_ | refine .mk 29 (by decide +kernel) ?_ | refine .mk 30 (by decide +kernel) ?_ | refine .mk 31 (by decide +kernel) ?_ | refine .mk 32 (by decide +kernel) ?_ | refine .mk 33 (by decide +kernel) ?_ | refine .mk 34 (by decide +kernel) ?_ | refine .mk 35 (by decide +kernel) ?_ | refine .mk 36 (by decide +kernel) ?_ | refine .mk 37 (by decide +kernel) ?_ | refine .mk 38 (by decide +kernel) ?_ | refine .mk 39 (by decide +kernel) ?_ | refine .mk 40 (by decide +kernel) ?_ | refine .mk 41 (by decide +kernel) ?_); (conv => whnf))
    | (refine HOLD.mk (by first | exact trivial | exact ⟨⟨rfl, rfl⟩, trivial⟩ | exact ⟨⟨rfl, rfl⟩, ⟨rfl, rfl⟩, trivial⟩) ?_; (conv => whnf))
    | (refine CALL0.cutBy lvPitches _ _ _ _ _ (leL_refl _) (hA ..) rfl ?_; conv => whnf)
    | (refine CALL0.mk _ _ _ _ _ (leL_refl _) (hA ..) rfl ?_; conv => whnf)
    | (refine CALLQ.mk _ _ _ (leL_refl _) (hA ..) rfl ?_; conv => whnf)
    | (refine CALL0.cutBy lvPitches _ _ _ _ _ (leL_refl _) (hS ..) rfl ?_; conv => whnf)
    | (refine CALL0.mk _ _ _ _ _ (leL_refl _) (hS ..) rfl ?_; conv => whnf)
    | (refine CALLQ.mk _ _ _ (leL_refl _) (hS ..) rfl ?_; conv => whnf)
  split
  · rename_i h
    exact Bool.noConfusion ((q1).symm.trans h)
  rename_i hN
  clear hN
  conv => whnf
  repeat first
    | (show DRAW _ _ _ _ _; (first | refine .mk 0 (by decide +kernel) ?_ | refine .mk 1 (by decide +kernel) ?_ | refine .mk 2 (by decide +kernel) ?_ | refine .mk 3 (by decide +kernel) ?_ | refine .mk 4 (by decide +kernel) ?_ | refine .mk 5 (by decide +kernel) ?_ | refine .mk 6 (by decide +kernel) ?_ | refine .mk 7 (by decide +kernel) ?_ | refine .mk 8 (by decide +kernel) ?_ | refine .mk 9 (by decide +kernel) ?_ | refine .mk 10 (by decide +kernel) ?_ | refine .mk 11 (by decide +kernel) ?_ | refine .mk 12 (by decide +kernel) ?_ | refine .mk 13 (by decide +kernel) ?_ | refine .mk 14 (by decide +kernel) ?_ | refine .mk 15 (by decide +kernel) ?_ | refine .mk 16 (by decide +kernel) ?_ | refine .mk 17 (by decide +kernel) ?_ | refine .mk 18 (by decide +kernel) ?_ | refine .mk 19 (by decide +kernel) ?_ | refine .mk 20 (by decide +kernel) ?_ | refine .mk 21 (by decide +kernel) ?_ | refine .mk 22 (by decide +kernel) ?_ | refine .mk 23 (by decide +kernel) ?_ | refine .mk 24 (by decide +kernel) ?_ | refine .mk 25 (by decide +kernel) ?_ | refine .mk 26 (by decide +kernel) ?_ | refine .mk 27 (by decide +kernel) ?_ | refine .mk 28 (by decide +kernel) ?_ | refine .mk 29 (by decide +kernel) ?_ | refine .mk 30 (by decide +kernel) ?_ | refine .mk 31 (by decide +kernel) ?_ | refine .mk 32 (by decide +kernel) ?_ | refine .mk 33 (by decide +kernel) ?_ | refine .mk 34 (by decide +kernel) ?_ | refine .mk 35 (by decide +kernel) ?_ | refine .mk 36 (by decide +kernel) ?_ | refine .mk 37 (by decide +kernel) ?_ | refine .mk 38 (by decide +kernel) ?_ | refine .mk 39 (by decide +kernel) ?_ | refine .mk 40 (by decide +kernel) ?_ | refine .mk 41 (by decide +kernel) ?_); (conv => whnf))
    | (refine HOLD.mk (by first | exact trivial | exact ⟨⟨rfl, rfl⟩, trivial⟩ | exact ⟨⟨rfl, rfl⟩, ⟨rfl, rfl⟩, trivial⟩) ?_; (conv => whnf))
    | (refine CALL0.cutBy lvPitches _ _ _ _ _ (leL_refl _) (hCP ..) rfl ?_; conv => whnf)
    | (refine CALL0.mk _ _ _ _ _ (leL_refl _) (hCP ..) rfl ?_; conv => whnf)
    | (refine CALLQ.mk _ _ _ (leL_refl _) (hCP ..) rfl ?_; conv => whnf)
  split
  · rename_i h
    exact Bool.noConfusion ((zP).symm.trans h)
  rename_i hN
  clear hN
  conv => whnf
  repeat first
    | (show DRAW _ _ _ _ _; (first | refine .mk 0 (by decide +kernel) ?_ | refine .mk 1 (by decide +kernel) ?_ | refine .mk 2 (by decide +kernel) ?_ | refine .mk 3 (by decide +kernel) ?_ | refine .mk 4 (by decide +kernel) ?_ | refine .mk 5 (by decide +kernel) ?_ | refine .mk 6 (by decide +kernel) ?_ | refine .mk 7 (by decide +kernel) ?_ | refine .mk 8 (by decide +kernel) ?_ | refine .mk 9 (by decide +kernel) ?_ | refine .mk 10 (by decide +kernel) ?_ | refine .mk 11 (by decide +kernel) ?_ | refine .mk 12 (by decide +kernel) ?_ | refine .mk 13 (by decide +kernel) ?_ | refine .mk 14 (by decide +kernel) ?_ | refine .mk 15 (by decide +kernel) ?_ | refine .mk 16 (by decide +kernel) ?_ | refine .mk 17 (by decide +kernel) ?_ | refine .mk 18 (by decide +kernel) ?_ | refine .mk 19 (by decide +kernel) ?_ | refine .mk 20 (by decide +kernel) ?_ | refine .mk 21 (by decide +kernel) ?_ | refine .mk 22 (by decide +kernel) ?_ | refine .mk 23 (by decide +kernel) ?_ | refine .mk 24 (by decide +kernel) ?_ | refine .mk 25 (by decide +kernel) ?_ | refine .mk 26 (by decide +kernel) ?_ | refine .mk 27 (by decide +kernel) ?_ | refine .mk 28 (by decide +kernel) ?_ | refine .mk 29 (by decide +kernel) ?_ | refine .mk 30 (by decide +kernel) ?_ | refine .mk 31 (by decide +kernel) ?_ | refine .mk 32 (by decide +kernel) ?_ | refine .mk 33 (by decide +kernel) ?_ | refine .mk 34 (by decide +kernel) ?_ | refine .mk 35 (by decide +kernel) ?_ | refine .mk 36 (by decide +kernel) ?_ | refine .mk 37 (by decide +kernel) ?_ | refine .mk 38 (by decide +kernel) ?_ | refine .mk 39 (by decide +kernel) ?_ | refine .mk 40 (by decide +kernel) ?_ | refine .mk 41 (by decide +kernel) ?_); (conv => whnf))
    | (refine HOLD.mk (by first | exact trivial | exact ⟨⟨rfl, rfl⟩, trivial⟩ | exact ⟨⟨rfl, rfl⟩, ⟨rfl, rfl⟩, trivial⟩) ?_; (conv => whnf))
    | (refine CALL0.cutBy lvPitches _ _ _ _ _ (leL_refl _) (hb ..) rfl ?_; conv => whnf)
    | (refine CALL0.mk _ _ _ _ _ (leL_refl _) (hb ..) rfl ?_; conv => whnf)
    | (refine CALLQ.mk _ _ _ (leL_refl _) (hb ..) rfl ?_; conv => whnf)
    | (refine CALL0.cutBy lvPitches _ _ _ _ _ (leL_refl _) (hB ..) rfl ?_; conv => whnf)
    | (refine CALL0.mk _ _ _ _ _ (leL_refl _) (hB ..) rfl ?_; conv => whnf)
    | (refine CALLQ.mk _ _ _ (leL_refl _) (hB ..) rfl ?_; conv => whnf)
    | (refine CALL0.cutBy lvPitches _ _ _ _ _ (leL_refl _) (hL ..) rfl ?_; conv => whnf)
    | (refine CALL0.mk _ _ _ _ _ (leL_refl _) (hL ..) rfl ?_; conv => whnf)
    | (refine CALLQ.mk _ _ _ (leL_refl _) (hL ..) rfl ?_; conv => whnf)
    | (refine CALL0.cutBy lvPitches _ _ _ _ _ (leL_refl _) (hE ..) rfl ?_; conv => whnf)
    | (refine CALL0.mk _ _ _ _ _ (leL_refl _) (hE ..) rfl ?_; conv => whnf)
    | (refine CALLQ.mk _ _ _ (leL_refl _) (hE ..) rfl ?_; conv => whnf)
    | (refine CALL0.cutBy lvPitches _ _ _ _ _ (leL_refl _) (hFl ..) rfl ?_; conv => whnf)
    | (refine CALL0.mk _ _ _ _ _ (leL_refl _) (hFl ..) rfl ?_; conv => whnf)
    | (refine CALLQ.mk _ _ _ (leL_refl _) (hFl ..) rfl ?_; conv => whnf)
    | (refine CALL0.cutBy lvPitches _ _ _ _ _ (leL_refl _) (c_rCheckDepth ..) rfl ?_; conv => whnf)
    | (refine CALL0.mk _ _ _ _ _ (leL_refl _) (c_rCheckDepth ..) rfl ?_; conv => whnf)
    | (refine CALLQ.mk _ _ _ (leL_refl _) (c_rCheckDepth ..) rfl ?_; conv => whnf)
    | (refine CALL0.cutBy lvPitches _ _ _ _ _ (leL_refl _) (hCP ..) rfl ?_; conv => whnf)
    | (refine CALL0.mk _ _ _ _ _ (leL_refl _) (hCP ..) rfl ?_; conv => whnf)
    | (refine CALLQ.mk _ _ _ (leL_refl _) (hCP ..) rfl ?_; conv => whnf)
    | (refine CALL0.cutBy lvPitches _ _ _ _ _ (leL_refl _) (hf4 ..) rfl ?_; conv => whnf)
    | (refine CALL0.mk _ _ _ _ _ (leL_refl _) (hf4 ..) rfl ?_; conv => whnf)
    | (refine CALLQ.mk _ _ _ (leL_refl _) (hf4 ..) rfl ?_; conv => whnf)
    | (refine CALL0.cutBy lvPitches _ _ _ _ _ (leL_refl _) (hCR ..) rfl ?_; conv => whnf)
    | (refine CALL0.mk _ _ _ _ _ (leL_refl _) (hCR ..) rfl ?_; conv => whnf)
    | (refine CALLQ.mk _ _ _ (leL_refl _) (hCR ..) rfl ?_; conv => whnf)
    | (refine CALL0.cutBy lvPitches _ _ _ _ _ (leL_refl _) (hf2 ..) rfl ?_; conv => whnf)
    | (refine CALL0.mk _ _ _ _ _ (leL_refl _) (hf2 ..) rfl ?_; conv => whnf)
    | (refine CALLQ.mk _ _ _ (leL_refl _) (hf2 ..) rfl ?_; conv => whnf)
  split
  · rename_i h
    exact Bool.noConfusion ((q5).symm.trans h)
  rename_i hN
  clear hN
  conv => whnf
  split
  · rename_i h
    exact Bool.noConfusion ((q5).symm.trans h)
  rename_i hN
  clear hN
  conv => whnf
  repeat first
    | (show DRAW _ _ _ _ _; (first | refine .mk 0 (by decide +kernel) ?_ | refine .mk 1 (by decide +kernel) ?_ | refine .mk 2 (by decide +kernel) ?_ | refine .mk 3 (by decide +kernel) ?_ | refine .mk 4 (by decide +kernel) ?_ | refine .mk 5 (by decide +kernel) ?_ | refine .mk 6 (by decide +kernel) ?_ | refine .mk 7 (by decide +kernel) ?_ | refine .mk 8 (by decide +kernel) ?_ | refine .mk 9 (by decide +kernel) ?_ | refine .mk 10 (by decide +kernel) ?_ | refine .mk 11 (by decide +kernel) ?_ | refine .mk 12 (by decide +kernel) ?_ | refine .mk 13 (by decide +kernel) ?_ | refine .mk 14 (by decide +kernel) ?_ | refine .mk 15 (by decide +kernel) ?_ | refine .mk 16 (by decide +kernel) ?_ | refine .mk 17 (by decide +kernel) ?_ | refine .mk 18 (by decide +kernel) ?_ | refine .mk 19 (by decide +kernel) ?_ | refine .mk 20 (by decide +kernel) ?_ | refine .mk 21 (by decide +kernel) ?_ | refine .mk 22 (by decide +kernel) ?_ | refine .mk 23 (by decide +kernel) ?_ | refine .mk 24 (by decide +kernel) ?_ | refine .mk 25 (by decide +kernel) ?_ | refine .mk 26 (by decide +kernel) ?_ | refine .mk 27 (by decide +kernel) ?_ | refine .mk 28 (by decide +kernel) ?_ | refine .mk 29 (by decide +kernel) ?_ | refine .mk 30 (by decide +kernel) ?_ | refine .mk 31 (by decide +kernel) ?_ | refine .mk 32 (by decide +kernel) ?_ | refine .mk 33 (by decide +kernel) ?_ | refine .mk 34 (by decide +kernel) ?_ | refine .mk 35 (by decide +kernel) ?_ | refine .mk 36 (by decide +kernel) ?_ | refine .mk 37 (by decide +kernel) ?_ | refine .mk 38 (by decide +kernel) ?_ | refine .mk 39 (by decide +kernel) ?_ | refine .mk 40 (by decide +kernel) ?_ | refine .mk 41 (by decide +kernel) ?_); (conv => whnf))
    | (refine HOLD.mk (by first | exact trivial | exact ⟨⟨rfl, rfl⟩, trivial⟩ | exact ⟨⟨rfl, rfl⟩, ⟨rfl, rfl⟩, trivial⟩) ?_; (conv => whnf))
    | (refine CALL0.cutBy lvPitches _ _ _ _ _ (leL_refl _) (hnu ..) rfl ?_; conv => whnf)
    | (refine CALL0.mk _ _ _ _ _ (leL_refl _) (hnu ..) rfl ?_; conv => whnf)
    | (refine CALLQ.mk _ _ _ (leL_refl _) (hnu ..) rfl ?_; conv => whnf)
    | (refine CALL0.cutBy lvPitches _ _ _ _ _ (leL_refl _) (hsp ..) rfl ?_; conv => whnf)
    | (refine CALL0.mk _ _ _ _ _ (leL_refl _) (hsp ..) rfl ?_; conv => whnf)
    | (refine CALLQ.mk _ _ _ (leL_refl _) (hsp ..) rfl ?_; conv => whnf)
  repeat first
    | exact ⟨rfl, rfl⟩
    | (split; rotate_left; (rename_i hz; exact absurd hz (by simp [zE])); (conv => whnf))
    | exact ⟨by simp [zE], rfl⟩
set_option maxHeartbeats 8000000 in
theorem pitches_bad3 (up : List Ces) (hr : gl g_rotor_roots = rootsI) (hp : gl g_internal_strconv_uint64pow10 = powI) (b : Bl) (f : Fl) (hs : lightB b f = true) (d x y m E : Int) (hEE : E = bestErr b f d x y) (zE : E ≠ 0) (q1 : decide (d > 6) = true) (q2 : decide (d ≤ 12) = false) (zP : pitchErr x y = 0) (q4 : decide (w64 (y - x) > 11) = false) :
    Cs gl n_nacellelaw03_RotorPitches up [b.iv, f.iv, .agg [.int .i64 d, .int .i64 x, .int .i64 y, .int .i64 m]] (.bool true) up := by
  have hsh : b.short = true := by
    unfold lightB at hs
    simp only [Bool.and_eq_true] at hs
    exact hs.1
  obtain ⟨hl, hd, hn⟩ := short_le hsh
  have hS := fun up => c_light (gl := gl) up b f
  rw [hs] at hS
  have hA := fun up => c_awake (gl := gl) up hr hp
  have hb := fun up => c_blade (gl := gl) up b hl hd hn
  have hf4 := fun up => c_rfl4 (gl := gl) up b.err f.err (withinS d 1 12) (pitchErr x y)
  have hE := fun up => c_rCheckBlade (gl := gl) up b
  have hFl := fun up => c_rCheckFlow (gl := gl) up f.w f.s f.p
  have hB := fun up => c_Best (gl := gl) up b f d x y
  have hL := fun up => c_Limit (gl := gl) up b f d x y m
  have hCP := fun up => c_rCheckPitches (gl := gl) up x y
  have eE : orE b.err (orE f.err (orE (withinS d 1 12) (pitchErr x y))) = E := by
    rw [hEE]; unfold bestErr allErr
    rw [orE_assoc, orE_assoc]
  rw [eE] at hf4
  have zE' : (E != 0) = true := by simpa using zE
  have hf2 := fun up => c_rfl2 (gl := gl) up E (withinS m (-1152921504606846976) 1152921504606846976)
  rw [orE_pos zE'] at hf2
  have e1 : bestR b f d x y = .tup [.int .i64 0, .agg [.int .i64 0, .int .i64 0], .int .i64 E] := by
    unfold bestR
    rw [← hEE, zE']; rfl
  have e2 : limErr b f d x y m = E := by
    have : limErr b f d x y m = orE (bestErr b f d x y) (withinS m (-1152921504606846976) 1152921504606846976) := by
      unfold limErr bestErr; rw [orE_assoc]
    rw [this, ← hEE, orE_pos zE']
  have e3 : limR b f d x y m = .tup [.int .i64 0, .int .i64 E] := by
    unfold limR
    rw [e2, zE']; rfl
  rw [e1] at hB
  rw [e3] at hL
  have hnu := fun up => c_number (gl := gl) up 0 E E 0 rfl (fun _ => rfl) (fun _ => rfl)
  have hsp := fun up => c_span (gl := gl) up 0 0 E E 0 0 rfl (fun _ => ⟨rfl, rfl⟩) (fun h => absurd h zE)
  have hCR := fun up => c_CheckRange (gl := gl) up m (-1152921504606846976) 1152921504606846976
  have q5 : (E == 0) = false := by simpa using zE
  rw [zP] at hCP hf4
  refine mk h_nacellelaw03_RotorPitches rfl rfl ?_
  conv => whnf
  repeat first
    | (show DRAW _ _ _ _ _; (first | refine .mk 0 (by decide +kernel) ?_ | refine .mk 1 (by decide +kernel) ?_ | refine .mk 2 (by decide +kernel) ?_ | refine .mk 3 (by decide +kernel) ?_ | refine .mk 4 (by decide +kernel) ?_ | refine .mk 5 (by decide +kernel) ?_ | refine .mk 6 (by decide +kernel) ?_ | refine .mk 7 (by decide +kernel) ?_ | refine .mk 8 (by decide +kernel) ?_ | refine .mk 9 (by decide +kernel) ?_ | refine .mk 10 (by decide +kernel) ?_ | refine .mk 11 (by decide +kernel) ?_ | refine .mk 12 (by decide +kernel) ?_ | refine .mk 13 (by decide +kernel) ?_ | refine .mk 14 (by decide +kernel) ?_ | refine .mk 15 (by decide +kernel) ?_ | refine .mk 16 (by decide +kernel) ?_ | refine .mk 17 (by decide +kernel) ?_ | refine .mk 18 (by decide +kernel) ?_ | refine .mk 19 (by decide +kernel) ?_ | refine .mk 20 (by decide +kernel) ?_ | refine .mk 21 (by decide +kernel) ?_ | refine .mk 22 (by decide +kernel) ?_ | refine .mk 23 (by decide +kernel) ?_ | refine .mk 24 (by decide +kernel) ?_ | refine .mk 25 (by decide +kernel) ?_ | refine .mk 26 (by decide +kernel) ?_ | refine .mk 27 (by decide +kernel) ?_ | refine .mk 28 (by decide +kernel) ?_ | refine .mk 29 (by decide +kernel) ?_ | refine .mk 30 (by decide +kernel) ?_ | refine .mk 31 (by decide +kernel) ?_ | refine .mk 32 (by decide +kernel) ?_ | refine .mk 33 (by decide +kernel) ?_ | refine .mk 34 (by decide +kernel) ?_ | refine .mk 35 (by decide +kernel) ?_ | refine .mk 36 (by decide +kernel) ?_ | refine .mk 37 (by decide +kernel) ?_ | refine .mk 38 (by decide +kernel) ?_ | refine .mk 39 (by decide +kernel) ?_ | refine .mk 40 (by decide +kernel) ?_ | refine .mk 41 (by decide +kernel) ?_); (conv => whnf))
    | (refine HOLD.mk (by first | exact trivial | exact ⟨⟨rfl, rfl⟩, trivial⟩ | exact ⟨⟨rfl, rfl⟩, ⟨rfl, rfl⟩, trivial⟩) ?_; (conv => whnf))
    | (refine CALL0.cutBy lvPitches _ _ _ _ _ (leL_refl _) (hA ..) rfl ?_; conv => whnf)
    | (refine CALL0.mk _ _ _ _ _ (leL_refl _) (hA ..) rfl ?_; conv => whnf)
    | (refine CALLQ.mk _ _ _ (leL_refl _) (hA ..) rfl ?_; conv => whnf)
    | (refine CALL0.cutBy lvPitches _ _ _ _ _ (leL_refl _) (hS ..) rfl ?_; conv => whnf)
    | (refine CALL0.mk _ _ _ _ _ (leL_refl _) (hS ..) rfl ?_; conv => whnf)
    | (refine CALLQ.mk _ _ _ (leL_refl _) (hS ..) rfl ?_; conv => whnf)
  split
  rotate_left
  · rename_i h
    exact Bool.noConfusion ((q1).symm.trans h)
  rename_i hN
  clear hN
  conv => whnf
  split
  · rename_i h
    exact Bool.noConfusion ((q2).symm.trans h)
  rename_i hN
  clear hN
  conv => whnf
  repeat first
    | (show DRAW _ _ _ _ _; (first | refine .mk 0 (by decide +kernel) ?_ | refine .mk 1 (by decide +kernel) ?_ | refine .mk 2 (by decide +kernel) ?_ | refine .mk 3 (by decide +kernel) ?_ | refine .mk 4 (by decide +kernel) ?_ | refine .mk 5 (by decide +kernel) ?_ | refine .mk 6 (by decide +kernel) ?_ | refine .mk 7 (by decide +kernel) ?_ | refine .mk 8 (by decide +kernel) ?_ | refine .mk 9 (by decide +kernel) ?_ | refine .mk 10 (by decide +kernel) ?_ | refine .mk 11 (by decide +kernel) ?_ | refine .mk 12 (by decide +kernel) ?_ | refine .mk 13 (by decide +kernel) ?_ | refine .mk 14 (by decide +kernel) ?_ | refine .mk 15 (by decide +kernel) ?_ | refine .mk 16 (by decide +kernel) ?_ | refine .mk 17 (by decide +kernel) ?_ | refine .mk 18 (by decide +kernel) ?_ | refine .mk 19 (by decide +kernel) ?_ | refine .mk 20 (by decide +kernel) ?_ | refine .mk 21 (by decide +kernel) ?_ | refine .mk 22 (by decide +kernel) ?_ | refine .mk 23 (by decide +kernel) ?_ | refine .mk 24 (by decide +kernel) ?_ | refine .mk 25 (by decide +kernel) ?_ | refine .mk 26 (by decide +kernel) ?_ | refine .mk 27 (by decide +kernel) ?_ | refine .mk 28 (by decide +kernel) ?_ | refine .mk 29 (by decide +kernel) ?_ | refine .mk 30 (by decide +kernel) ?_ | refine .mk 31 (by decide +kernel) ?_ | refine .mk 32 (by decide +kernel) ?_ | refine .mk 33 (by decide +kernel) ?_ | refine .mk 34 (by decide +kernel) ?_ | refine .mk 35 (by decide +kernel) ?_ | refine .mk 36 (by decide +kernel) ?_ | refine .mk 37 (by decide +kernel) ?_ | refine .mk 38 (by decide +kernel) ?_ | refine .mk 39 (by decide +kernel) ?_ | refine .mk 40 (by decide +kernel) ?_ | refine .mk 41 (by decide +kernel) ?_); (conv => whnf))
    | (refine HOLD.mk (by first | exact trivial | exact ⟨⟨rfl, rfl⟩, trivial⟩ | exact ⟨⟨rfl, rfl⟩, ⟨rfl, rfl⟩, trivial⟩) ?_; (conv => whnf))
    | (refine CALL0.cutBy lvPitches _ _ _ _ _ (leL_refl _) (hCP ..) rfl ?_; conv => whnf)
    | (refine CALL0.mk _ _ _ _ _ (leL_refl _) (hCP ..) rfl ?_; conv => whnf)
    | (refine CALLQ.mk _ _ _ (leL_refl _) (hCP ..) rfl ?_; conv => whnf)
  split
  · rename_i h
    exact Bool.noConfusion ((q4).symm.trans h)
  rename_i hN
  clear hN
  conv => whnf
  repeat first
    | (show DRAW _ _ _ _ _; (first | refine .mk 0 (by decide +kernel) ?_ | refine .mk 1 (by decide +kernel) ?_ | refine .mk 2 (by decide +kernel) ?_ | refine .mk 3 (by decide +kernel) ?_ | refine .mk 4 (by decide +kernel) ?_ | refine .mk 5 (by decide +kernel) ?_ | refine .mk 6 (by decide +kernel) ?_ | refine .mk 7 (by decide +kernel) ?_ | refine .mk 8 (by decide +kernel) ?_ | refine .mk 9 (by decide +kernel) ?_ | refine .mk 10 (by decide +kernel) ?_ | refine .mk 11 (by decide +kernel) ?_ | refine .mk 12 (by decide +kernel) ?_ | refine .mk 13 (by decide +kernel) ?_ | refine .mk 14 (by decide +kernel) ?_ | refine .mk 15 (by decide +kernel) ?_ | refine .mk 16 (by decide +kernel) ?_ | refine .mk 17 (by decide +kernel) ?_ | refine .mk 18 (by decide +kernel) ?_ | refine .mk 19 (by decide +kernel) ?_ | refine .mk 20 (by decide +kernel) ?_ | refine .mk 21 (by decide +kernel) ?_ | refine .mk 22 (by decide +kernel) ?_ | refine .mk 23 (by decide +kernel) ?_ | refine .mk 24 (by decide +kernel) ?_ | refine .mk 25 (by decide +kernel) ?_ | refine .mk 26 (by decide +kernel) ?_ | refine .mk 27 (by decide +kernel) ?_ | refine .mk 28 (by decide +kernel) ?_ | refine .mk 29 (by decide +kernel) ?_ | refine .mk 30 (by decide +kernel) ?_ | refine .mk 31 (by decide +kernel) ?_ | refine .mk 32 (by decide +kernel) ?_ | refine .mk 33 (by decide +kernel) ?_ | refine .mk 34 (by decide +kernel) ?_ | refine .mk 35 (by decide +kernel) ?_ | refine .mk 36 (by decide +kernel) ?_ | refine .mk 37 (by decide +kernel) ?_ | refine .mk 38 (by decide +kernel) ?_ | refine .mk 39 (by decide +kernel) ?_ | refine .mk 40 (by decide +kernel) ?_ | refine .mk 41 (by decide +kernel) ?_); (conv => whnf))
    | (refine HOLD.mk (by first | exact trivial | exact ⟨⟨rfl, rfl⟩, trivial⟩ | exact ⟨⟨rfl, rfl⟩, ⟨rfl, rfl⟩, trivial⟩) ?_; (conv => whnf))
    | (refine CALL0.cutBy lvPitches _ _ _ _ _ (leL_refl _) (hb ..) rfl ?_; conv => whnf)
    | (refine CALL0.mk _ _ _ _ _ (leL_refl _) (hb ..) rfl ?_; conv => whnf)
    | (refine CALLQ.mk _ _ _ (leL_refl _) (hb ..) rfl ?_; conv => whnf)
    | (refine CALL0.cutBy lvPitches _ _ _ _ _ (leL_refl _) (hB ..) rfl ?_; conv => whnf)
    | (refine CALL0.mk _ _ _ _ _ (leL_refl _) (hB ..) rfl ?_; conv => whnf)
    | (refine CALLQ.mk _ _ _ (leL_refl _) (hB ..) rfl ?_; conv => whnf)
    | (refine CALL0.cutBy lvPitches _ _ _ _ _ (leL_refl _) (hL ..) rfl ?_; conv => whnf)
    | (refine CALL0.mk _ _ _ _ _ (leL_refl _) (hL ..) rfl ?_; conv => whnf)
    | (refine CALLQ.mk _ _ _ (leL_refl _) (hL ..) rfl ?_; conv => whnf)
    | (refine CALL0.cutBy lvPitches _ _ _ _ _ (leL_refl _) (hE ..) rfl ?_; conv => whnf)
    | (refine CALL0.mk _ _ _ _ _ (leL_refl _) (hE ..) rfl ?_; conv => whnf)
    | (refine CALLQ.mk _ _ _ (leL_refl _) (hE ..) rfl ?_; conv => whnf)
    | (refine CALL0.cutBy lvPitches _ _ _ _ _ (leL_refl _) (hFl ..) rfl ?_; conv => whnf)
    | (refine CALL0.mk _ _ _ _ _ (leL_refl _) (hFl ..) rfl ?_; conv => whnf)
    | (refine CALLQ.mk _ _ _ (leL_refl _) (hFl ..) rfl ?_; conv => whnf)
    | (refine CALL0.cutBy lvPitches _ _ _ _ _ (leL_refl _) (c_rCheckDepth ..) rfl ?_; conv => whnf)
    | (refine CALL0.mk _ _ _ _ _ (leL_refl _) (c_rCheckDepth ..) rfl ?_; conv => whnf)
    | (refine CALLQ.mk _ _ _ (leL_refl _) (c_rCheckDepth ..) rfl ?_; conv => whnf)
    | (refine CALL0.cutBy lvPitches _ _ _ _ _ (leL_refl _) (hCP ..) rfl ?_; conv => whnf)
    | (refine CALL0.mk _ _ _ _ _ (leL_refl _) (hCP ..) rfl ?_; conv => whnf)
    | (refine CALLQ.mk _ _ _ (leL_refl _) (hCP ..) rfl ?_; conv => whnf)
    | (refine CALL0.cutBy lvPitches _ _ _ _ _ (leL_refl _) (hf4 ..) rfl ?_; conv => whnf)
    | (refine CALL0.mk _ _ _ _ _ (leL_refl _) (hf4 ..) rfl ?_; conv => whnf)
    | (refine CALLQ.mk _ _ _ (leL_refl _) (hf4 ..) rfl ?_; conv => whnf)
    | (refine CALL0.cutBy lvPitches _ _ _ _ _ (leL_refl _) (hCR ..) rfl ?_; conv => whnf)
    | (refine CALL0.mk _ _ _ _ _ (leL_refl _) (hCR ..) rfl ?_; conv => whnf)
    | (refine CALLQ.mk _ _ _ (leL_refl _) (hCR ..) rfl ?_; conv => whnf)
    | (refine CALL0.cutBy lvPitches _ _ _ _ _ (leL_refl _) (hf2 ..) rfl ?_; conv => whnf)
    | (refine CALL0.mk _ _ _ _ _ (leL_refl _) (hf2 ..) rfl ?_; conv => whnf)
    | (refine CALLQ.mk _ _ _ (leL_refl _) (hf2 ..) rfl ?_; conv => whnf)
  split
  · rename_i h
    exact Bool.noConfusion ((q5).symm.trans h)
  rename_i hN
  clear hN
  conv => whnf
  split
  · rename_i h
    exact Bool.noConfusion ((q5).symm.trans h)
  rename_i hN
  clear hN
  conv => whnf
  repeat first
    | (show DRAW _ _ _ _ _; (first | refine .mk 0 (by decide +kernel) ?_ | refine .mk 1 (by decide +kernel) ?_ | refine .mk 2 (by decide +kernel) ?_ | refine .mk 3 (by decide +kernel) ?_ | refine .mk 4 (by decide +kernel) ?_ | refine .mk 5 (by decide +kernel) ?_ | refine .mk 6 (by decide +kernel) ?_ | refine .mk 7 (by decide +kernel) ?_ | refine .mk 8 (by decide +kernel) ?_ | refine .mk 9 (by decide +kernel) ?_ | refine .mk 10 (by decide +kernel) ?_ | refine .mk 11 (by decide +kernel) ?_ | refine .mk 12 (by decide +kernel) ?_ | refine .mk 13 (by decide +kernel) ?_ | refine .mk 14 (by decide +kernel) ?_ | refine .mk 15 (by decide +kernel) ?_ | refine .mk 16 (by decide +kernel) ?_ | refine .mk 17 (by decide +kernel) ?_ | refine .mk 18 (by decide +kernel) ?_ | refine .mk 19 (by decide +kernel) ?_ | refine .mk 20 (by decide +kernel) ?_ | refine .mk 21 (by decide +kernel) ?_ | refine .mk 22 (by decide +kernel) ?_ | refine .mk 23 (by decide +kernel) ?_ | refine .mk 24 (by decide +kernel) ?_ | refine .mk 25 (by decide +kernel) ?_ | refine .mk 26 (by decide +kernel) ?_ | refine .mk 27 (by decide +kernel) ?_ | refine .mk 28 (by decide +kernel) ?_ | refine .mk 29 (by decide +kernel) ?_ | refine .mk 30 (by decide +kernel) ?_ | refine .mk 31 (by decide +kernel) ?_ | refine .mk 32 (by decide +kernel) ?_ | refine .mk 33 (by decide +kernel) ?_ | refine .mk 34 (by decide +kernel) ?_ | refine .mk 35 (by decide +kernel) ?_ | refine .mk 36 (by decide +kernel) ?_ | refine .mk 37 (by decide +kernel) ?_ | refine .mk 38 (by decide +kernel) ?_ | refine .mk 39 (by decide +kernel) ?_ | refine .mk 40 (by decide +kernel) ?_ | refine .mk 41 (by decide +kernel) ?_); (conv => whnf))
    | (refine HOLD.mk (by first | exact trivial | exact ⟨⟨rfl, rfl⟩, trivial⟩ | exact ⟨⟨rfl, rfl⟩, ⟨rfl, rfl⟩, trivial⟩) ?_; (conv => whnf))
    | (refine CALL0.cutBy lvPitches _ _ _ _ _ (leL_refl _) (hnu ..) rfl ?_; conv => whnf)
    | (refine CALL0.mk _ _ _ _ _ (leL_refl _) (hnu ..) rfl ?_; conv => whnf)
    | (refine CALLQ.mk _ _ _ (leL_refl _) (hnu ..) rfl ?_; conv => whnf)
    | (refine CALL0.cutBy lvPitches _ _ _ _ _ (leL_refl _) (hsp ..) rfl ?_; conv => whnf)
    | (refine CALL0.mk _ _ _ _ _ (leL_refl _) (hsp ..) rfl ?_; conv => whnf)
    | (refine CALLQ.mk _ _ _ (leL_refl _) (hsp ..) rfl ?_; conv => whnf)
  repeat first
    | exact ⟨rfl, rfl⟩
    | (split; rotate_left; (rename_i hz; exact absurd hz (by simp [zE])); (conv => whnf))
    | exact ⟨by simp [zE], rfl⟩
set_option maxHeartbeats 8000000 in
theorem pitches_bad4 (up : List Ces) (hr : gl g_rotor_roots = rootsI) (hp : gl g_internal_strconv_uint64pow10 = powI) (b : Bl) (f : Fl) (hs : lightB b f = true) (d x y m E : Int) (hEE : E = bestErr b f d x y) (zE : E ≠ 0) (q1 : decide (d > 6) = true) (q2 : decide (d ≤ 12) = false) (zP : (pitchErr x y == 0) = false) :
    Cs gl n_nacellelaw03_RotorPitches up [b.iv, f.iv, .agg [.int .i64 d, .int .i64 x, .int .i64 y, .int .i64 m]] (.bool true) up := by
  have hsh : b.short = true := by
    unfold lightB at hs
    simp only [Bool.and_eq_true] at hs
    exact hs.1
  obtain ⟨hl, hd, hn⟩ := short_le hsh
  have hS := fun up => c_light (gl := gl) up b f
  rw [hs] at hS
  have hA := fun up => c_awake (gl := gl) up hr hp
  have hb := fun up => c_blade (gl := gl) up b hl hd hn
  have hf4 := fun up => c_rfl4 (gl := gl) up b.err f.err (withinS d 1 12) (pitchErr x y)
  have hE := fun up => c_rCheckBlade (gl := gl) up b
  have hFl := fun up => c_rCheckFlow (gl := gl) up f.w f.s f.p
  have hB := fun up => c_Best (gl := gl) up b f d x y
  have hL := fun up => c_Limit (gl := gl) up b f d x y m
  have hCP := fun up => c_rCheckPitches (gl := gl) up x y
  have eE : orE b.err (orE f.err (orE (withinS d 1 12) (pitchErr x y))) = E := by
    rw [hEE]; unfold bestErr allErr
    rw [orE_assoc, orE_assoc]
  rw [eE] at hf4
  have zE' : (E != 0) = true := by simpa using zE
  have hf2 := fun up => c_rfl2 (gl := gl) up E (withinS m (-1152921504606846976) 1152921504606846976)
  rw [orE_pos zE'] at hf2
  have e1 : bestR b f d x y = .tup [.int .i64 0, .agg [.int .i64 0, .int .i64 0], .int .i64 E] := by
    unfold bestR
    rw [← hEE, zE']; rfl
  have e2 : limErr b f d x y m = E := by
    have : limErr b f d x y m = orE (bestErr b f d x y) (withinS m (-1152921504606846976) 1152921504606846976) := by
      unfold limErr bestErr; rw [orE_assoc]
    rw [this, ← hEE, orE_pos zE']
  have e3 : limR b f d x y m = .tup [.int .i64 0, .int .i64 E] := by
    unfold limR
    rw [e2, zE']; rfl
  rw [e1] at hB
  rw [e3] at hL
  have hnu := fun up => c_number (gl := gl) up 0 E E 0 rfl (fun _ => rfl) (fun _ => rfl)
  have hsp := fun up => c_span (gl := gl) up 0 0 E E 0 0 rfl (fun _ => ⟨rfl, rfl⟩) (fun h => absurd h zE)
  have hCR := fun up => c_CheckRange (gl := gl) up m (-1152921504606846976) 1152921504606846976
  have q5 : (E == 0) = false := by simpa using zE
  refine mk h_nacellelaw03_RotorPitches rfl rfl ?_
  conv => whnf
  repeat first
    | (show DRAW _ _ _ _ _; (first | refine .mk 0 (by decide +kernel) ?_ | refine .mk 1 (by decide +kernel) ?_ | refine .mk 2 (by decide +kernel) ?_ | refine .mk 3 (by decide +kernel) ?_ | refine .mk 4 (by decide +kernel) ?_ | refine .mk 5 (by decide +kernel) ?_ | refine .mk 6 (by decide +kernel) ?_ | refine .mk 7 (by decide +kernel) ?_ | refine .mk 8 (by decide +kernel) ?_ | refine .mk 9 (by decide +kernel) ?_ | refine .mk 10 (by decide +kernel) ?_ | refine .mk 11 (by decide +kernel) ?_ | refine .mk 12 (by decide +kernel) ?_ | refine .mk 13 (by decide +kernel) ?_ | refine .mk 14 (by decide +kernel) ?_ | refine .mk 15 (by decide +kernel) ?_ | refine .mk 16 (by decide +kernel) ?_ | refine .mk 17 (by decide +kernel) ?_ | refine .mk 18 (by decide +kernel) ?_ | refine .mk 19 (by decide +kernel) ?_ | refine .mk 20 (by decide +kernel) ?_ | refine .mk 21 (by decide +kernel) ?_ | refine .mk 22 (by decide +kernel) ?_ | refine .mk 23 (by decide +kernel) ?_ | refine .mk 24 (by decide +kernel) ?_ | refine .mk 25 (by decide +kernel) ?_ | refine .mk 26 (by decide +kernel) ?_ | refine .mk 27 (by decide +kernel) ?_ | refine .mk 28 (by decide +kernel) ?_ | refine .mk 29 (by decide +kernel) ?_ | refine .mk 30 (by decide +kernel) ?_ | refine .mk 31 (by decide +kernel) ?_ | refine .mk 32 (by decide +kernel) ?_ | refine .mk 33 (by decide +kernel) ?_ | refine .mk 34 (by decide +kernel) ?_ | refine .mk 35 (by decide +kernel) ?_ | refine .mk 36 (by decide +kernel) ?_ | refine .mk 37 (by decide +kernel) ?_ | refine .mk 38 (by decide +kernel) ?_ | refine .mk 39 (by decide +kernel) ?_ | refine .mk 40 (by decide +kernel) ?_ | refine .mk 41 (by decide +kernel) ?_); (conv => whnf))
    | (refine HOLD.mk (by first | exact trivial | exact ⟨⟨rfl, rfl⟩, trivial⟩ | exact ⟨⟨rfl, rfl⟩, ⟨rfl, rfl⟩, trivial⟩) ?_; (conv => whnf))
    | (refine CALL0.cutBy lvPitches _ _ _ _ _ (leL_refl _) (hA ..) rfl ?_; conv => whnf)
    | (refine CALL0.mk _ _ _ _ _ (leL_refl _) (hA ..) rfl ?_; conv => whnf)
    | (refine CALLQ.mk _ _ _ (leL_refl _) (hA ..) rfl ?_; conv => whnf)
    | (refine CALL0.cutBy lvPitches _ _ _ _ _ (leL_refl _) (hS ..) rfl ?_; conv => whnf)
    | (refine CALL0.mk _ _ _ _ _ (leL_refl _) (hS ..) rfl ?_; conv => whnf)
    | (refine CALLQ.mk _ _ _ (leL_refl _) (hS ..) rfl ?_; conv => whnf)
  split
  rotate_left
  · rename_i h
    exact Bool.noConfusion ((q1).symm.trans h)
  rename_i hN
  clear hN
  conv => whnf
  split
  · rename_i h
    exact Bool.noConfusion ((q2).symm.trans h)
  rename_i hN
  clear hN
  conv => whnf
  repeat first
    | (show DRAW _ _ _ _ _; (first | refine .mk 0 (by decide +kernel) ?_ | refine .mk 1 (by decide +kernel) ?_ | refine .mk 2 (by decide +kernel) ?_ | refine .mk 3 (by decide +kernel) ?_ | refine .mk 4 (by decide +kernel) ?_ | refine .mk 5 (by decide +kernel) ?_ | refine .mk 6 (by decide +kernel) ?_ | refine .mk 7 (by decide +kernel) ?_ | refine .mk 8 (by decide +kernel) ?_ | refine .mk 9 (by decide +kernel) ?_ | refine .mk 10 (by decide +kernel) ?_ | refine .mk 11 (by decide +kernel) ?_ | refine .mk 12 (by decide +kernel) ?_ | refine .mk 13 (by decide +kernel) ?_ | refine .mk 14 (by decide +kernel) ?_ | refine .mk 15 (by decide +kernel) ?_ | refine .mk 16 (by decide +kernel) ?_ | refine .mk 17 (by decide +kernel) ?_ | refine .mk 18 (by decide +kernel) ?_ | refine .mk 19 (by decide +kernel) ?_ | refine .mk 20 (by decide +kernel) ?_ | refine .mk 21 (by decide +kernel) ?_ | refine .mk 22 (by decide +kernel) ?_ | refine .mk 23 (by decide +kernel) ?_ | refine .mk 24 (by decide +kernel) ?_ | refine .mk 25 (by decide +kernel) ?_ | refine .mk 26 (by decide +kernel) ?_ | refine .mk 27 (by decide +kernel) ?_ | refine .mk 28 (by decide +kernel) ?_ | refine .mk 29 (by decide +kernel) ?_ | refine .mk 30 (by decide +kernel) ?_ | refine .mk 31 (by decide +kernel) ?_ | refine .mk 32 (by decide +kernel) ?_ | refine .mk 33 (by decide +kernel) ?_ | refine .mk 34 (by decide +kernel) ?_ | refine .mk 35 (by decide +kernel) ?_ | refine .mk 36 (by decide +kernel) ?_ | refine .mk 37 (by decide +kernel) ?_ | refine .mk 38 (by decide +kernel) ?_ | refine .mk 39 (by decide +kernel) ?_ | refine .mk 40 (by decide +kernel) ?_ | refine .mk 41 (by decide +kernel) ?_); (conv => whnf))
    | (refine HOLD.mk (by first | exact trivial | exact ⟨⟨rfl, rfl⟩, trivial⟩ | exact ⟨⟨rfl, rfl⟩, ⟨rfl, rfl⟩, trivial⟩) ?_; (conv => whnf))
    | (refine CALL0.cutBy lvPitches _ _ _ _ _ (leL_refl _) (hCP ..) rfl ?_; conv => whnf)
    | (refine CALL0.mk _ _ _ _ _ (leL_refl _) (hCP ..) rfl ?_; conv => whnf)
    | (refine CALLQ.mk _ _ _ (leL_refl _) (hCP ..) rfl ?_; conv => whnf)
  split
  · rename_i h
    exact Bool.noConfusion ((zP).symm.trans h)
  rename_i hN
  clear hN
  conv => whnf
  repeat first
    | (show DRAW _ _ _ _ _; (first | refine .mk 0 (by decide +kernel) ?_ | refine .mk 1 (by decide +kernel) ?_ | refine .mk 2 (by decide +kernel) ?_ | refine .mk 3 (by decide +kernel) ?_ | refine .mk 4 (by decide +kernel) ?_ | refine .mk 5 (by decide +kernel) ?_ | refine .mk 6 (by decide +kernel) ?_ | refine .mk 7 (by decide +kernel) ?_ | refine .mk 8 (by decide +kernel) ?_ | refine .mk 9 (by decide +kernel) ?_ | refine .mk 10 (by decide +kernel) ?_ | refine .mk 11 (by decide +kernel) ?_ | refine .mk 12 (by decide +kernel) ?_ | refine .mk 13 (by decide +kernel) ?_ | refine .mk 14 (by decide +kernel) ?_ | refine .mk 15 (by decide +kernel) ?_ | refine .mk 16 (by decide +kernel) ?_ | refine .mk 17 (by decide +kernel) ?_ | refine .mk 18 (by decide +kernel) ?_ | refine .mk 19 (by decide +kernel) ?_ | refine .mk 20 (by decide +kernel) ?_ | refine .mk 21 (by decide +kernel) ?_ | refine .mk 22 (by decide +kernel) ?_ | refine .mk 23 (by decide +kernel) ?_ | refine .mk 24 (by decide +kernel) ?_ | refine .mk 25 (by decide +kernel) ?_ | refine .mk 26 (by decide +kernel) ?_ | refine .mk 27 (by decide +kernel) ?_ | refine .mk 28 (by decide +kernel) ?_ | refine .mk 29 (by decide +kernel) ?_ | refine .mk 30 (by decide +kernel) ?_ | refine .mk 31 (by decide +kernel) ?_ | refine .mk 32 (by decide +kernel) ?_ | refine .mk 33 (by decide +kernel) ?_ | refine .mk 34 (by decide +kernel) ?_ | refine .mk 35 (by decide +kernel) ?_ | refine .mk 36 (by decide +kernel) ?_ | refine .mk 37 (by decide +kernel) ?_ | refine .mk 38 (by decide +kernel) ?_ | refine .mk 39 (by decide +kernel) ?_ | refine .mk 40 (by decide +kernel) ?_ | refine .mk 41 (by decide +kernel) ?_); (conv => whnf))
    | (refine HOLD.mk (by first | exact trivial | exact ⟨⟨rfl, rfl⟩, trivial⟩ | exact ⟨⟨rfl, rfl⟩, ⟨rfl, rfl⟩, trivial⟩) ?_; (conv => whnf))
    | (refine CALL0.cutBy lvPitches _ _ _ _ _ (leL_refl _) (hb ..) rfl ?_; conv => whnf)
    | (refine CALL0.mk _ _ _ _ _ (leL_refl _) (hb ..) rfl ?_; conv => whnf)
    | (refine CALLQ.mk _ _ _ (leL_refl _) (hb ..) rfl ?_; conv => whnf)
    | (refine CALL0.cutBy lvPitches _ _ _ _ _ (leL_refl _) (hB ..) rfl ?_; conv => whnf)
    | (refine CALL0.mk _ _ _ _ _ (leL_refl _) (hB ..) rfl ?_; conv => whnf)
    | (refine CALLQ.mk _ _ _ (leL_refl _) (hB ..) rfl ?_; conv => whnf)
    | (refine CALL0.cutBy lvPitches _ _ _ _ _ (leL_refl _) (hL ..) rfl ?_; conv => whnf)
    | (refine CALL0.mk _ _ _ _ _ (leL_refl _) (hL ..) rfl ?_; conv => whnf)
    | (refine CALLQ.mk _ _ _ (leL_refl _) (hL ..) rfl ?_; conv => whnf)
    | (refine CALL0.cutBy lvPitches _ _ _ _ _ (leL_refl _) (hE ..) rfl ?_; conv => whnf)
    | (refine CALL0.mk _ _ _ _ _ (leL_refl _) (hE ..) rfl ?_; conv => whnf)
    | (refine CALLQ.mk _ _ _ (leL_refl _) (hE ..) rfl ?_; conv => whnf)
    | (refine CALL0.cutBy lvPitches _ _ _ _ _ (leL_refl _) (hFl ..) rfl ?_; conv => whnf)
    | (refine CALL0.mk _ _ _ _ _ (leL_refl _) (hFl ..) rfl ?_; conv => whnf)
    | (refine CALLQ.mk _ _ _ (leL_refl _) (hFl ..) rfl ?_; conv => whnf)
    | (refine CALL0.cutBy lvPitches _ _ _ _ _ (leL_refl _) (c_rCheckDepth ..) rfl ?_; conv => whnf)
    | (refine CALL0.mk _ _ _ _ _ (leL_refl _) (c_rCheckDepth ..) rfl ?_; conv => whnf)
    | (refine CALLQ.mk _ _ _ (leL_refl _) (c_rCheckDepth ..) rfl ?_; conv => whnf)
    | (refine CALL0.cutBy lvPitches _ _ _ _ _ (leL_refl _) (hCP ..) rfl ?_; conv => whnf)
    | (refine CALL0.mk _ _ _ _ _ (leL_refl _) (hCP ..) rfl ?_; conv => whnf)
    | (refine CALLQ.mk _ _ _ (leL_refl _) (hCP ..) rfl ?_; conv => whnf)
    | (refine CALL0.cutBy lvPitches _ _ _ _ _ (leL_refl _) (hf4 ..) rfl ?_; conv => whnf)
    | (refine CALL0.mk _ _ _ _ _ (leL_refl _) (hf4 ..) rfl ?_; conv => whnf)
    | (refine CALLQ.mk _ _ _ (leL_refl _) (hf4 ..) rfl ?_; conv => whnf)
    | (refine CALL0.cutBy lvPitches _ _ _ _ _ (leL_refl _) (hCR ..) rfl ?_; conv => whnf)
    | (refine CALL0.mk _ _ _ _ _ (leL_refl _) (hCR ..) rfl ?_; conv => whnf)
    | (refine CALLQ.mk _ _ _ (leL_refl _) (hCR ..) rfl ?_; conv => whnf)
    | (refine CALL0.cutBy lvPitches _ _ _ _ _ (leL_refl _) (hf2 ..) rfl ?_; conv => whnf)
    | (refine CALL0.mk _ _ _ _ _ (leL_refl _) (hf2 ..) rfl ?_; conv => whnf)
    | (refine CALLQ.mk _ _ _ (leL_refl _) (hf2 ..) rfl ?_; conv => whnf)
  split
  · rename_i h
    exact Bool.noConfusion ((q5).symm.trans h)
  rename_i hN
  clear hN
  conv => whnf
  split
  · rename_i h
    exact Bool.noConfusion ((q5).symm.trans h)
  rename_i hN
  clear hN
  conv => whnf
  repeat first
    | (show DRAW _ _ _ _ _; (first | refine .mk 0 (by decide +kernel) ?_ | refine .mk 1 (by decide +kernel) ?_ | refine .mk 2 (by decide +kernel) ?_ | refine .mk 3 (by decide +kernel) ?_ | refine .mk 4 (by decide +kernel) ?_ | refine .mk 5 (by decide +kernel) ?_ | refine .mk 6 (by decide +kernel) ?_ | refine .mk 7 (by decide +kernel) ?_ | refine .mk 8 (by decide +kernel) ?_ | refine .mk 9 (by decide +kernel) ?_ | refine .mk 10 (by decide +kernel) ?_ | refine .mk 11 (by decide +kernel) ?_ | refine .mk 12 (by decide +kernel) ?_ | refine .mk 13 (by decide +kernel) ?_ | refine .mk 14 (by decide +kernel) ?_ | refine .mk 15 (by decide +kernel) ?_ | refine .mk 16 (by decide +kernel) ?_ | refine .mk 17 (by decide +kernel) ?_ | refine .mk 18 (by decide +kernel) ?_ | refine .mk 19 (by decide +kernel) ?_ | refine .mk 20 (by decide +kernel) ?_ | refine .mk 21 (by decide +kernel) ?_ | refine .mk 22 (by decide +kernel) ?_ | refine .mk 23 (by decide +kernel) ?_ | refine .mk 24 (by decide +kernel) ?_ | refine .mk 25 (by decide +kernel) ?_ | refine .mk 26 (by decide +kernel) ?_ | refine .mk 27 (by decide +kernel) ?_ | refine .mk 28 (by decide +kernel) ?_ | refine .mk 29 (by decide +kernel) ?_ | refine .mk 30 (by decide +kernel) ?_ | refine .mk 31 (by decide +kernel) ?_ | refine .mk 32 (by decide +kernel) ?_ | refine .mk 33 (by decide +kernel) ?_ | refine .mk 34 (by decide +kernel) ?_ | refine .mk 35 (by decide +kernel) ?_ | refine .mk 36 (by decide +kernel) ?_ | refine .mk 37 (by decide +kernel) ?_ | refine .mk 38 (by decide +kernel) ?_ | refine .mk 39 (by decide +kernel) ?_ | refine .mk 40 (by decide +kernel) ?_ | refine .mk 41 (by decide +kernel) ?_); (conv => whnf))
    | (refine HOLD.mk (by first | exact trivial | exact ⟨⟨rfl, rfl⟩, trivial⟩ | exact ⟨⟨rfl, rfl⟩, ⟨rfl, rfl⟩, trivial⟩) ?_; (conv => whnf))
    | (refine CALL0.cutBy lvPitches _ _ _ _ _ (leL_refl _) (hnu ..) rfl ?_; conv => whnf)
    | (refine CALL0.mk _ _ _ _ _ (leL_refl _) (hnu ..) rfl ?_; conv => whnf)
    | (refine CALLQ.mk _ _ _ (leL_refl _) (hnu ..) rfl ?_; conv => whnf)
    | (refine CALL0.cutBy lvPitches _ _ _ _ _ (leL_refl _) (hsp ..) rfl ?_; conv => whnf)
    | (refine CALL0.mk _ _ _ _ _ (leL_refl _) (hsp ..) rfl ?_; conv => whnf)
    | (refine CALLQ.mk _ _ _ (leL_refl _) (hsp ..) rfl ?_; conv => whnf)
  repeat first
    | exact ⟨rfl, rfl⟩
    | (split; rotate_left; (rename_i hz; exact absurd hz (by simp [zE])); (conv => whnf))
    | exact ⟨by simp [zE], rfl⟩

set_option maxHeartbeats 8000000 in
theorem pitches_good (up : List Ces) (hr : gl g_rotor_roots = rootsI) (hp : gl g_internal_strconv_uint64pow10 = powI) (b : Bl) (f : Fl) (hs : lightB b f = true) (d x y m : Int) (zE : bestErr b f d x y = 0) (q1 : decide (d > 6) = false) (zP : pitchErr x y = 0) (q4 : decide (w64 (y - x) > 11) = false) :
    Cs gl n_nacellelaw03_RotorPitches up [b.iv, f.iv, .agg [.int .i64 d, .int .i64 x, .int .i64 y, .int .i64 m]] (.bool true) up := by
  have hEE : (0 : Int) = bestErr b f d x y := zE.symm
  obtain ⟨E, hE0⟩ : ∃ E : Int, E = 0 := ⟨0, rfl⟩
  rw [← hE0] at hEE
  have hsh : b.short = true := by
    unfold lightB at hs
    simp only [Bool.and_eq_true] at hs
    exact hs.1
  obtain ⟨hl, hd, hn⟩ := short_le hsh
  have hS := fun up => c_light (gl := gl) up b f
  rw [hs] at hS
  have hA := fun up => c_awake (gl := gl) up hr hp
  have hb := fun up => c_blade (gl := gl) up b hl hd hn
  have hf4 := fun up => c_rfl4 (gl := gl) up b.err f.err (withinS d 1 12) (pitchErr x y)
  have hE := fun up => c_rCheckBlade (gl := gl) up b
  have hFl := fun up => c_rCheckFlow (gl := gl) up f.w f.s f.p
  have hB := fun up => c_Best (gl := gl) up b f d x y
  have hL := fun up => c_Limit (gl := gl) up b f d x y m
  have hCP := fun up => c_rCheckPitches (gl := gl) up x y
  have eE : orE b.err (orE f.err (orE (withinS d 1 12) (pitchErr x y))) = E := by
    rw [hEE]; unfold bestErr allErr
    rw [orE_assoc, orE_assoc]
  rw [eE] at hf4
  rw [hE0] at hf4 hEE
  rw [zP] at hCP hf4
  have zz := zE
  unfold bestErr at zz
  rw [orE_zero] at zz
  obtain ⟨g1, g2, n, rfl, g3⟩ := allErr_ok zz.1
  obtain ⟨p1, p2, p3⟩ := pitchErr_ok zz.2
  clear zz eE hE0
  obtain ⟨N, hN⟩ : ∃ N : Nat, y + 1 - x = N := ⟨(y + 1 - x).toNat, by omega⟩
  obtain ⟨g, hg⟩ : ∃ g : Int → Option (Int × Int), g = fun p => b.tq (f.at p) n := ⟨_, rfl⟩
  have eB : bestOf b f ((n + 1 : Nat) : Int) x y = bestTo g x N := by
    unfold bestOf
    rw [hg, hN, show (((n + 1 : Nat) : Int) - 1).toNat = n by omega]; rfl
  have eL : limOf b f ((n + 1 : Nat) : Int) x y m = limTo g m N x := by
    unfold limOf
    rw [hg, hN, show (((n + 1 : Nat) : Int) - 1).toNat = n by omega]; rfl
  have e1 : bestR b f ((n + 1 : Nat) : Int) x y = .tup [.int .i64 (bestTo g x N).1, .agg [.int .i64 (bestTo g x N).2.1.1, .int .i64 (bestTo g x N).2.1.2], .int .i64 (bif !(bestTo g x N).2.2 then 7 else 0)] := by
    unfold bestR
    rw [zE, eB]; rfl
  rw [e1] at hB
  obtain ⟨W, hW⟩ : ∃ W, W = withinS m (-1152921504606846976) 1152921504606846976 := ⟨_, rfl⟩
  have e2 : limErr b f ((n + 1 : Nat) : Int) x y m = W := by
    have : limErr b f ((n + 1 : Nat) : Int) x y m = orE (bestErr b f ((n + 1 : Nat) : Int) x y) (withinS m (-1152921504606846976) 1152921504606846976) := by
      unfold limErr bestErr; rw [orE_assoc]
    rw [this, zE, ← hW]; rfl
  have hf2 := fun up => c_rfl2 (gl := gl) up 0 W
  rw [show orE 0 W = W from rfl] at hf2
  have hCR := fun up => c_CheckRange (gl := gl) up m (-1152921504606846976) 1152921504606846976
  rw [← hW] at hCR
  have hRB := fun up => c_rBest (gl := gl) up b f n g3 x y g1 g2 p1 p2 p3 N hN g hg
  have hRL := fun up => c_rLimit (gl := gl) up b f n g3 x y m g1 g2 p1 p2 p3 N hN g hg
  have e3 : limR b f ((n + 1 : Nat) : Int) x y m = bif W != 0 then .tup [.int .i64 0, .int .i64 W] else match limTo g m N x with
      | some p => .tup [.int .i64 p, .int .i64 0]
      | none => .tup [.int .i64 0, .int .i64 7] := by
    unfold limR
    rw [e2, eL]
    cases limTo g m N x <;> rfl
  rw [e3] at hL
  obtain ⟨D, hD⟩ : ∃ D : Int, D = ((n + 1 : Nat) : Int) := ⟨_, rfl⟩
  rw [← hD] at hB hL hRB hRL hf4 q1 ⊢
  clear hEE eB eL e1 e2 e3 hD zE
  obtain ⟨B, hBB⟩ : ∃ B, B = bestTo g x N := ⟨_, rfl⟩
  have hno := bestTo_no g x N
  rw [← hBB] at hB hRB hno
  obtain ⟨B1, ⟨B2, B3⟩, B4⟩ := B
  simp only at hB hRB hno
  clear hBB
  cases B4 with
  | true =>
    have hsp := fun up => c_span (gl := gl) up B2 B3 0 0 B2 B3 rfl (fun h => absurd rfl h) (fun _ => ⟨rfl, rfl⟩)
    have hn1 := fun up => c_number (gl := gl) up B1 0 0 B1 rfl (fun h => absurd rfl h) (fun _ => rfl)
    simp only [Bool.not_true, cond_false] at hB
    by_cases zW : W = 0
    rotate_left
    · have qW : (W != 0) = true := by simpa using zW
      have qW2 : (W == 0) = false := by simpa using zW
      rw [qW, cond_true] at hL
      have hn2 := fun up => c_number (gl := gl) up 0 W W 0 rfl (fun _ => rfl) (fun _ => rfl)
      refine mk h_nacellelaw03_RotorPitches rfl rfl ?_
      conv => whnf
      repeat first
        | (show DRAW _ _ _ _ _; (first | refine .mk 0 (by decide +kernel) ?_ | refine .mk 1 (by decide +kernel) ?_ | refine .mk 2 (by decide +kernel) ?_ | refine .mk 3 (by decide +kernel) ?_ | refine .mk 4 (by decide +kernel) ?_ | refine .mk 5 (by decide +kernel) ?_ | refine .mk 6 (by decide +kernel) ?_ | refine .mk 7 (by decide +kernel) ?_ | refine .mk 8 (by decide +kernel) ?_ | refine .mk 9 (by decide +kernel) ?_ | refine .mk 10 (by decide +kernel) ?_ | refine .mk 11 (by decide +kernel) ?_ | refine .mk 12 (by decide +kernel) ?_ | refine .mk 13 (by decide +kernel) ?_ | refine .mk 14 (by decide +kernel) ?_ | refine .mk 15 (by decide +kernel) ?_ | refine .mk 16 (by decide +kernel) ?_ | refine .mk 17 (by decide +kernel) ?_ | refine .mk 18 (by decide +kernel) ?_ | refine .mk 19 (by decide +kernel) ?_ | refine .mk 20 (by decide +kernel) ?_ | refine .mk 21 (by decide +kernel) ?_ | refine .mk 22 (by decide +kernel) ?_ | refine .mk 23 (by decide +kernel) ?_ | refine .mk 24 (by decide +kernel) ?_ | refine .mk 25 (by decide +kernel) ?_ | refine .mk 26 (by decide +kernel) ?_ | refine .mk 27 (by decide +kernel) ?_ | refine .mk 28 (by decide +kernel) ?_ | refine .mk 29 (by decide +kernel) ?_ | refine .mk 30 (by decide +kernel) ?_ | refine .mk 31 (by decide +kernel) ?_ | refine .mk 32 (by decide +kernel) ?_ | refine .mk 33 (by decide +kernel) ?_ | refine .mk 34 (by decide +kernel) ?_ | refine .mk 35 (by decide +kernel) ?_ | refine .mk 36 (by decide +kernel) ?_ | refine .mk 37 (by decide +kernel) ?_ | refine .mk 38 (by decide +kernel) ?_ | refine .mk 39 (by decide +kernel) ?_ | refine .mk 40 (by decide +kernel) ?_ | refine .mk 41 (by decide +kernel) ?_); (conv => whnf))
        | (refine HOLD.mk (by first | exact trivial | exact ⟨⟨rfl, rfl⟩, trivial⟩ | exact ⟨⟨rfl, rfl⟩, ⟨rfl, rfl⟩, trivial⟩) ?_; (conv => whnf))
        | (refine CALL0.cutBy lvPitches _ _ _ _ _ (leL_refl _) (hA ..) rfl ?_; conv => whnf)
        | (refine CALL0.mk _ _ _ _ _ (leL_refl _) (hA ..) rfl ?_; conv => whnf)
        | (refine CALLQ.mk _ _ _ (leL_refl _) (hA ..) rfl ?_; conv => whnf)
        | (refine CALL0.cutBy lvPitches _ _ _ _ _ (leL_refl _) (hS ..) rfl ?_; conv => whnf)
        | (refine CALL0.mk _ _ _ _ _ (leL_refl _) (hS ..) rfl ?_; conv => whnf)
        | (refine CALLQ.mk _ _ _ (leL_refl _) (hS ..) rfl ?_; conv => whnf)
      split
      · rename_i h
        exact Bool.noConfusion ((q1).symm.trans h)
      rename_i hN
      clear hN
      conv => whnf
      repeat first
        | (show DRAW _ _ _ _ _; (first | refine .mk 0 (by decide +kernel) ?_ | refine .mk 1 (by decide +kernel) ?_ | refine .mk 2 (by decide +kernel) ?_ | refine .mk 3 (by decide +kernel) ?_ | refine .mk 4 (by decide +kernel) ?_ | refine .mk 5 (by decide +kernel) ?_ | refine .mk 6 (by decide +kernel) ?_ | refine .mk 7 (by decide +kernel) ?_ | refine .mk 8 (by decide +kernel) ?_ | refine .mk 9 (by decide +kernel) ?_ | refine .mk 10 (by decide +kernel) ?_ | refine .mk 11 (by decide +kernel) ?_ | refine .mk 12 (by decide +kernel) ?_ | refine .mk 13 (by decide +kernel) ?_ | refine .mk 14 (by decide +kernel) ?_ | refine .mk 15 (by decide +kernel) ?_ | refine .mk 16 (by decide +kernel) ?_ | refine .mk 17 (by decide +kernel) ?_ | refine .mk 18 (by decide +kernel) ?_ | refine .mk 19 (by decide +kernel) ?_ | refine .mk 20 (by decide +kernel) ?_ | refine .mk 21 (by decide +kernel) ?_ | refine .mk 22 (by decide +kernel) ?_ | refine .mk 23 (by decide +kernel) ?_ | refine .mk 24 (by decide +kernel) ?_ | refine .mk 25 (by decide +kernel) ?_ | refine .mk 26 (by decide +kernel) ?_ | refine .mk 27 (by decide +kernel) ?_ | refine .mk 28 (by decide +kernel) ?_ | refine .mk 29 (by decide +kernel) ?_ | refine .mk 30 (by decide +kernel) ?_ | refine .mk 31 (by decide +kernel) ?_ | refine .mk 32 (by decide +kernel) ?_ | refine .mk 33 (by decide +kernel) ?_ | refine .mk 34 (by decide +kernel) ?_ | refine .mk 35 (by decide +kernel) ?_ | refine .mk 36 (by decide +kernel) ?_ | refine .mk 37 (by decide +kernel) ?_ | refine .mk 38 (by decide +kernel) ?_ | refine .mk 39 (by decide +kernel) ?_ | refine .mk 40 (by decide +kernel) ?_ | refine .mk 41 (by decide +kernel) ?_); (conv => whnf))
        | (refine HOLD.mk (by first | exact trivial | exact ⟨⟨rfl, rfl⟩, trivial⟩ | exact ⟨⟨rfl, rfl⟩, ⟨rfl, rfl⟩, trivial⟩) ?_; (conv => whnf))
        | (refine CALL0.cutBy lvPitches _ _ _ _ _ (leL_refl _) (hCP ..) rfl ?_; conv => whnf)
        | (refine CALL0.mk _ _ _ _ _ (leL_refl _) (hCP ..) rfl ?_; conv => whnf)
        | (refine CALLQ.mk _ _ _ (leL_refl _) (hCP ..) rfl ?_; conv => whnf)
      split
      · rename_i h
        exact Bool.noConfusion ((q4).symm.trans h)
      rename_i hN
      clear hN
      conv => whnf
      repeat first
        | (show DRAW _ _ _ _ _; (first | refine .mk 0 (by decide +kernel) ?_ | refine .mk 1 (by decide +kernel) ?_ | refine .mk 2 (by decide +kernel) ?_ | refine .mk 3 (by decide +kernel) ?_ | refine .mk 4 (by decide +kernel) ?_ | refine .mk 5 (by decide +kernel) ?_ | refine .mk 6 (by decide +kernel) ?_ | refine .mk 7 (by decide +kernel) ?_ | refine .mk 8 (by decide +kernel) ?_ | refine .mk 9 (by decide +kernel) ?_ | refine .mk 10 (by decide +kernel) ?_ | refine .mk 11 (by decide +kernel) ?_ | refine .mk 12 (by decide +kernel) ?_ | refine .mk 13 (by decide +kernel) ?_ | refine .mk 14 (by decide +kernel) ?_ | refine .mk 15 (by decide +kernel) ?_ | refine .mk 16 (by decide +kernel) ?_ | refine .mk 17 (by decide +kernel) ?_ | refine .mk 18 (by decide +kernel) ?_ | refine .mk 19 (by decide +kernel) ?_ | refine .mk 20 (by decide +kernel) ?_ | refine .mk 21 (by decide +kernel) ?_ | refine .mk 22 (by decide +kernel) ?_ | refine .mk 23 (by decide +kernel) ?_ | refine .mk 24 (by decide +kernel) ?_ | refine .mk 25 (by decide +kernel) ?_ | refine .mk 26 (by decide +kernel) ?_ | refine .mk 27 (by decide +kernel) ?_ | refine .mk 28 (by decide +kernel) ?_ | refine .mk 29 (by decide +kernel) ?_ | refine .mk 30 (by decide +kernel) ?_ | refine .mk 31 (by decide +kernel) ?_ | refine .mk 32 (by decide +kernel) ?_ | refine .mk 33 (by decide +kernel) ?_ | refine .mk 34 (by decide +kernel) ?_ | refine .mk 35 (by decide +kernel) ?_ | refine .mk 36 (by decide +kernel) ?_ | refine .mk 37 (by decide +kernel) ?_ | refine .mk 38 (by decide +kernel) ?_ | refine .mk 39 (by decide +kernel) ?_ | refine .mk 40 (by decide +kernel) ?_ | refine .mk 41 (by decide +kernel) ?_); (conv => whnf))
        | (refine HOLD.mk (by first | exact trivial | exact ⟨⟨rfl, rfl⟩, trivial⟩ | exact ⟨⟨rfl, rfl⟩, ⟨rfl, rfl⟩, trivial⟩) ?_; (conv => whnf))
        | (refine CALL0.cutBy lvPitches _ _ _ _ _ (leL_refl _) (hb ..) rfl ?_; conv => whnf)
        | (refine CALL0.mk _ _ _ _ _ (leL_refl _) (hb ..) rfl ?_; conv => whnf)
        | (refine CALLQ.mk _ _ _ (leL_refl _) (hb ..) rfl ?_; conv => whnf)
        | (refine CALL0.cutBy lvPitches _ _ _ _ _ (leL_refl _) (hB ..) rfl ?_; conv => whnf)
        | (refine CALL0.mk _ _ _ _ _ (leL_refl _) (hB ..) rfl ?_; conv => whnf)
        | (refine CALLQ.mk _ _ _ (leL_refl _) (hB ..) rfl ?_; conv => whnf)
        | (refine CALL0.cutBy lvPitches _ _ _ _ _ (leL_refl _) (hL ..) rfl ?_; conv => whnf)
        | (refine CALL0.mk _ _ _ _ _ (leL_refl _) (hL ..) rfl ?_; conv => whnf)
        | (refine CALLQ.mk _ _ _ (leL_refl _) (hL ..) rfl ?_; conv => whnf)
        | (refine CALL0.cutBy lvPitches _ _ _ _ _ (leL_refl _) (hE ..) rfl ?_; conv => whnf)
        | (refine CALL0.mk _ _ _ _ _ (leL_refl _) (hE ..) rfl ?_; conv => whnf)
        | (refine CALLQ.mk _ _ _ (leL_refl _) (hE ..) rfl ?_; conv => whnf)
        | (refine CALL0.cutBy lvPitches _ _ _ _ _ (leL_refl _) (hFl ..) rfl ?_; conv => whnf)
        | (refine CALL0.mk _ _ _ _ _ (leL_refl _) (hFl ..) rfl ?_; conv => whnf)
        | (refine CALLQ.mk _ _ _ (leL_refl _) (hFl ..) rfl ?_; conv => whnf)
        | (refine CALL0.cutBy lvPitches _ _ _ _ _ (leL_refl _) (c_rCheckDepth ..) rfl ?_; conv => whnf)
        | (refine CALL0.mk _ _ _ _ _ (leL_refl _) (c_rCheckDepth ..) rfl ?_; conv => whnf)
        | (refine CALLQ.mk _ _ _ (leL_refl _) (c_rCheckDepth ..) rfl ?_; conv => whnf)
        | (refine CALL0.cutBy lvPitches _ _ _ _ _ (leL_refl _) (hCP ..) rfl ?_; conv => whnf)
        | (refine CALL0.mk _ _ _ _ _ (leL_refl _) (hCP ..) rfl ?_; conv => whnf)
        | (refine CALLQ.mk _ _ _ (leL_refl _) (hCP ..) rfl ?_; conv => whnf)
        | (refine CALL0.cutBy lvPitches _ _ _ _ _ (leL_refl _) (hf4 ..) rfl ?_; conv => whnf)
        | (refine CALL0.mk _ _ _ _ _ (leL_refl _) (hf4 ..) rfl ?_; conv => whnf)
        | (refine CALLQ.mk _ _ _ (leL_refl _) (hf4 ..) rfl ?_; conv => whnf)
        | (refine CALL0.cutBy lvPitches _ _ _ _ _ (leL_refl _) (hCR ..) rfl ?_; conv => whnf)
        | (refine CALL0.mk _ _ _ _ _ (leL_refl _) (hCR ..) rfl ?_; conv => whnf)
        | (refine CALLQ.mk _ _ _ (leL_refl _) (hCR ..) rfl ?_; conv => whnf)
        | (refine CALL0.cutBy lvPitches _ _ _ _ _ (leL_refl _) (hf2 ..) rfl ?_; conv => whnf)
        | (refine CALL0.mk _ _ _ _ _ (leL_refl _) (hf2 ..) rfl ?_; conv => whnf)
        | (refine CALLQ.mk _ _ _ (leL_refl _) (hf2 ..) rfl ?_; conv => whnf)
      repeat first
        | (show DRAW _ _ _ _ _; (first | refine .mk 0 (by decide +kernel) ?_ | refine .mk 1 (by decide +kernel) ?_ | refine .mk 2 (by decide +kernel) ?_ | refine .mk 3 (by decide +kernel) ?_ | refine .mk 4 (by decide +kernel) ?_ | refine .mk 5 (by decide +kernel) ?_ | refine .mk 6 (by decide +kernel) ?_ | refine .mk 7 (by decide +kernel) ?_ | refine .mk 8 (by decide +kernel) ?_ | refine .mk 9 (by decide +kernel) ?_ | refine .mk 10 (by decide +kernel) ?_ | refine .mk 11 (by decide +kernel) ?_ | refine .mk 12 (by decide +kernel) ?_ | refine .mk 13 (by decide +kernel) ?_ | refine .mk 14 (by decide +kernel) ?_ | refine .mk 15 (by decide +kernel) ?_ | refine .mk 16 (by decide +kernel) ?_ | refine .mk 17 (by decide +kernel) ?_ | refine .mk 18 (by decide +kernel) ?_ | refine .mk 19 (by decide +kernel) ?_ | refine .mk 20 (by decide +kernel) ?_ | refine .mk 21 (by decide +kernel) ?_ | refine .mk 22 (by decide +kernel) ?_ | refine .mk 23 (by decide +kernel) ?_ | refine .mk 24 (by decide +kernel) ?_ | refine .mk 25 (by decide +kernel) ?_ | refine .mk 26 (by decide +kernel) ?_ | refine .mk 27 (by decide +kernel) ?_ | refine .mk 28 (by decide +kernel) ?_ | refine .mk 29 (by decide +kernel) ?_ | refine .mk 30 (by decide +kernel) ?_ | refine .mk 31 (by decide +kernel) ?_ | refine .mk 32 (by decide +kernel) ?_ | refine .mk 33 (by decide +kernel) ?_ | refine .mk 34 (by decide +kernel) ?_ | refine .mk 35 (by decide +kernel) ?_ | refine .mk 36 (by decide +kernel) ?_ | refine .mk 37 (by decide +kernel) ?_ | refine .mk 38 (by decide +kernel) ?_ | refine .mk 39 (by decide +kernel) ?_ | refine .mk 40 (by decide +kernel) ?_ | refine .mk 41 (by decide +kernel) ?_); (conv => whnf))
        | (refine HOLD.mk (by first | exact trivial | exact ⟨⟨rfl, rfl⟩, trivial⟩ | exact ⟨⟨rfl, rfl⟩, ⟨rfl, rfl⟩, trivial⟩) ?_; (conv => whnf))
        | (refine CALL0.cutBy lvPitches _ _ _ _ _ (leL_refl _) (hRB ..) rfl ?_; conv => whnf)
        | (refine CALL0.mk _ _ _ _ _ (leL_refl _) (hRB ..) rfl ?_; conv => whnf)
        | (refine CALLQ.mk _ _ _ (leL_refl _) (hRB ..) rfl ?_; conv => whnf)
      split
      · rename_i h
        exact Bool.noConfusion ((qW2).symm.trans h)
      rename_i hN
      clear hN
      conv => whnf
      repeat first
        | (show DRAW _ _ _ _ _; (first | refine .mk 0 (by decide +kernel) ?_ | refine .mk 1 (by decide +kernel) ?_ | refine .mk 2 (by decide +kernel) ?_ | refine .mk 3 (by decide +kernel) ?_ | refine .mk 4 (by decide +kernel) ?_ | refine .mk 5 (by decide +kernel) ?_ | refine .mk 6 (by decide +kernel) ?_ | refine .mk 7 (by decide +kernel) ?_ | refine .mk 8 (by decide +kernel) ?_ | refine .mk 9 (by decide +kernel) ?_ | refine .mk 10 (by decide +kernel) ?_ | refine .mk 11 (by decide +kernel) ?_ | refine .mk 12 (by decide +kernel) ?_ | refine .mk 13 (by decide +kernel) ?_ | refine .mk 14 (by decide +kernel) ?_ | refine .mk 15 (by decide +kernel) ?_ | refine .mk 16 (by decide +kernel) ?_ | refine .mk 17 (by decide +kernel) ?_ | refine .mk 18 (by decide +kernel) ?_ | refine .mk 19 (by decide +kernel) ?_ | refine .mk 20 (by decide +kernel) ?_ | refine .mk 21 (by decide +kernel) ?_ | refine .mk 22 (by decide +kernel) ?_ | refine .mk 23 (by decide +kernel) ?_ | refine .mk 24 (by decide +kernel) ?_ | refine .mk 25 (by decide +kernel) ?_ | refine .mk 26 (by decide +kernel) ?_ | refine .mk 27 (by decide +kernel) ?_ | refine .mk 28 (by decide +kernel) ?_ | refine .mk 29 (by decide +kernel) ?_ | refine .mk 30 (by decide +kernel) ?_ | refine .mk 31 (by decide +kernel) ?_ | refine .mk 32 (by decide +kernel) ?_ | refine .mk 33 (by decide +kernel) ?_ | refine .mk 34 (by decide +kernel) ?_ | refine .mk 35 (by decide +kernel) ?_ | refine .mk 36 (by decide +kernel) ?_ | refine .mk 37 (by decide +kernel) ?_ | refine .mk 38 (by decide +kernel) ?_ | refine .mk 39 (by decide +kernel) ?_ | refine .mk 40 (by decide +kernel) ?_ | refine .mk 41 (by decide +kernel) ?_); (conv => whnf))
        | (refine HOLD.mk (by first | exact trivial | exact ⟨⟨rfl, rfl⟩, trivial⟩ | exact ⟨⟨rfl, rfl⟩, ⟨rfl, rfl⟩, trivial⟩) ?_; (conv => whnf))
        | (refine CALL0.cutBy lvPitches _ _ _ _ _ (leL_refl _) (hn1 ..) rfl ?_; conv => whnf)
        | (refine CALL0.mk _ _ _ _ _ (leL_refl _) (hn1 ..) rfl ?_; conv => whnf)
        | (refine CALLQ.mk _ _ _ (leL_refl _) (hn1 ..) rfl ?_; conv => whnf)
        | (refine CALL0.cutBy lvPitches _ _ _ _ _ (leL_refl _) (hn2 ..) rfl ?_; conv => whnf)
        | (refine CALL0.mk _ _ _ _ _ (leL_refl _) (hn2 ..) rfl ?_; conv => whnf)
        | (refine CALLQ.mk _ _ _ (leL_refl _) (hn2 ..) rfl ?_; conv => whnf)
        | (refine CALL0.cutBy lvPitches _ _ _ _ _ (leL_refl _) (hsp ..) rfl ?_; conv => whnf)
        | (refine CALL0.mk _ _ _ _ _ (leL_refl _) (hsp ..) rfl ?_; conv => whnf)
        | (refine CALLQ.mk _ _ _ (leL_refl _) (hsp ..) rfl ?_; conv => whnf)
      repeat first
        | exact ⟨rfl, rfl⟩
        | (split; rotate_left; (rename_i hz; exact absurd hz (by simp [zW])); (conv => whnf))
        | exact ⟨by simp [zW], rfl⟩
    rw [zW] at hL hCR hf2
    simp only [bne_self_eq_false, cond_false] at hL
    cases hlim : limTo g m N x with
    | none =>
      rw [hlim] at hL hRL
      simp only [limO] at hRL
      simp only at hL
      have hn2 := fun up => c_number (gl := gl) up 0 7 7 0 rfl (fun _ => rfl) (fun h => absurd h (by decide))
      refine mk h_nacellelaw03_RotorPitches rfl rfl ?_
      conv => whnf
      repeat first
        | (show DRAW _ _ _ _ _; (first | refine .mk 0 (by decide +kernel) ?_ | refine .mk 1 (by decide +kernel) ?_ | refine .mk 2 (by decide +kernel) ?_ | refine .mk 3 (by decide +kernel) ?_ | refine .mk 4 (by decide +kernel) ?_ | refine .mk 5 (by decide +kernel) ?_ | refine .mk 6 (by decide +kernel) ?_ | refine .mk 7 (by decide +kernel) ?_ | refine .mk 8 (by decide +kernel) ?_ | refine .mk 9 (by decide +kernel) ?_ | refine .mk 10 (by decide +kernel) ?_ | refine .mk 11 (by decide +kernel) ?_ | refine .mk 12 (by decide +kernel) ?_ | refine .mk 13 (by decide +kernel) ?_ | refine .mk 14 (by decide +kernel) ?_ | refine .mk 15 (by decide +kernel) ?_ | refine .mk 16 (by decide +kernel) ?_ | refine .mk 17 (by decide +kernel) ?_ | refine .mk 18 (by decide +kernel) ?_ | refine .mk 19 (by decide +kernel) ?_ | refine .mk 20 (by decide +kernel) ?_ | refine .mk 21 (by decide +kernel) ?_ | refine .mk 22 (by decide +kernel) ?_ | refine .mk 23 (by decide +kernel) ?_ | refine .mk 24 (by decide +kernel) ?_ | refine .mk 25 (by decide +kernel) ?_ | refine .mk 26 (by decide +kernel) ?_ | refine .mk 27 (by decide +kernel) ?_ | refine .mk 28 (by decide +kernel) ?_ | refine .mk 29 (by decide +kernel) ?_ | refine .mk 30 (by decide +kernel) ?_ | refine .mk 31 (by decide +kernel) ?_ | refine .mk 32 (by decide +kernel) ?_ | refine .mk 33 (by decide +kernel) ?_ | refine .mk 34 (by decide +kernel) ?_ | refine .mk 35 (by decide +kernel) ?_ | refine .mk 36 (by decide +kernel) ?_ | refine .mk 37 (by decide +kernel) ?_ | refine .mk 38 (by decide +kernel) ?_ | refine .mk 39 (by decide +kernel) ?_ | refine .mk 40 (by decide +kernel) ?_ | refine .mk 41 (by decide +kernel) ?_); (conv => whnf))
        | (refine HOLD.mk (by first | exact trivial | exact ⟨⟨rfl, rfl⟩, trivial⟩ | exact ⟨⟨rfl, rfl⟩, ⟨rfl, rfl⟩, trivial⟩) ?_; (conv => whnf))
        | (refine CALL0.cutBy lvPitches _ _ _ _ _ (leL_refl _) (hA ..) rfl ?_; conv => whnf)
        | (refine CALL0.mk _ _ _ _ _ (leL_refl _) (hA ..) rfl ?_; conv => whnf)
        | (refine CALLQ.mk _ _ _ (leL_refl _) (hA ..) rfl ?_; conv => whnf)
        | (refine CALL0.cutBy lvPitches _ _ _ _ _ (leL_refl _) (hS ..) rfl ?_; conv => whnf)
        | (refine CALL0.mk _ _ _ _ _ (leL_refl _) (hS ..) rfl ?_; conv => whnf)
        | (refine CALLQ.mk _ _ _ (leL_refl _) (hS ..) rfl ?_; conv => whnf)
      split
      · rename_i h
        exact Bool.noConfusion ((q1).symm.trans h)
      rename_i hN
      clear hN
      conv => whnf
      repeat first
        | (show DRAW _ _ _ _ _; (first | refine .mk 0 (by decide +kernel) ?_ | refine .mk 1 (by decide +kernel) ?_ | refine .mk 2 (by decide +kernel) ?_ | refine .mk 3 (by decide +kernel) ?_ | refine .mk 4 (by decide +kernel) ?_ | refine .mk 5 (by decide +kernel) ?_ | refine .mk 6 (by decide +kernel) ?_ | refine .mk 7 (by decide +kernel) ?_ | refine .mk 8 (by decide +kernel) ?_ | refine .mk 9 (by decide +kernel) ?_ | refine .mk 10 (by decide +kernel) ?_ | refine .mk 11 (by decide +kernel) ?_ | refine .mk 12 (by decide +kernel) ?_ | refine .mk 13 (by decide +kernel) ?_ | refine .mk 14 (by decide +kernel) ?_ | refine .mk 15 (by decide +kernel) ?_ | refine .mk 16 (by decide +kernel) ?_ | refine .mk 17 (by decide +kernel) ?_ | refine .mk 18 (by decide +kernel) ?_ | refine .mk 19 (by decide +kernel) ?_ | refine .mk 20 (by decide +kernel) ?_ | refine .mk 21 (by decide +kernel) ?_ | refine .mk 22 (by decide +kernel) ?_ | refine .mk 23 (by decide +kernel) ?_ | refine .mk 24 (by decide +kernel) ?_ | refine .mk 25 (by decide +kernel) ?_ | refine .mk 26 (by decide +kernel) ?_ | refine .mk 27 (by decide +kernel) ?_ | refine .mk 28 (by decide +kernel) ?_ | refine .mk 29 (by decide +kernel) ?_ | refine .mk 30 (by decide +kernel) ?_ | refine .mk 31 (by decide +kernel) ?_ | refine .mk 32 (by decide +kernel) ?_ | refine .mk 33 (by decide +kernel) ?_ | refine .mk 34 (by decide +kernel) ?_ | refine .mk 35 (by decide +kernel) ?_ | refine .mk 36 (by decide +kernel) ?_ | refine .mk 37 (by decide +kernel) ?_ | refine .mk 38 (by decide +kernel) ?_ | refine .mk 39 (by decide +kernel) ?_ | refine .mk 40 (by decide +kernel) ?_ | refine .mk 41 (by decide +kernel) ?_); (conv => whnf))
        | (refine HOLD.mk (by first | exact trivial | exact ⟨⟨rfl, rfl⟩, trivial⟩ | exact ⟨⟨rfl, rfl⟩, ⟨rfl, rfl⟩, trivial⟩) ?_; (conv => whnf))
        | (refine CALL0.cutBy lvPitches _ _ _ _ _ (leL_refl _) (hCP ..) rfl ?_; conv => whnf)
        | (refine CALL0.mk _ _ _ _ _ (leL_refl _) (hCP ..) rfl ?_; conv => whnf)
        | (refine CALLQ.mk _ _ _ (leL_refl _) (hCP ..) rfl ?_; conv => whnf)
      split
      · rename_i h
        exact Bool.noConfusion ((q4).symm.trans h)
      rename_i hN
      clear hN
      conv => whnf
      repeat first
        | (show DRAW _ _ _ _ _; (first | refine .mk 0 (by decide +kernel) ?_ | refine .mk 1 (by decide +kernel) ?_ | refine .mk 2 (by decide +kernel) ?_ | refine .mk 3 (by decide +kernel) ?_ | refine .mk 4 (by decide +kernel) ?_ | refine .mk 5 (by decide +kernel) ?_ | refine .mk 6 (by decide +kernel) ?_ | refine .mk 7 (by decide +kernel) ?_ | refine .mk 8 (by decide +kernel) ?_ | refine .mk 9 (by decide +kernel) ?_ | refine .mk 10 (by decide +kernel) ?_ | refine .mk 11 (by decide +kernel) ?_ | refine .mk 12 (by decide +kernel) ?_ | refine .mk 13 (by decide +kernel) ?_ | refine .mk 14 (by decide +kernel) ?_ | refine .mk 15 (by decide +kernel) ?_ | refine .mk 16 (by decide +kernel) ?_ | refine .mk 17 (by decide +kernel) ?_ | refine .mk 18 (by decide +kernel) ?_ | refine .mk 19 (by decide +kernel) ?_ | refine .mk 20 (by decide +kernel) ?_ | refine .mk 21 (by decide +kernel) ?_ | refine .mk 22 (by decide +kernel) ?_ | refine .mk 23 (by decide +kernel) ?_ | refine .mk 24 (by decide +kernel) ?_ | refine .mk 25 (by decide +kernel) ?_ | refine .mk 26 (by decide +kernel) ?_ | refine .mk 27 (by decide +kernel) ?_ | refine .mk 28 (by decide +kernel) ?_ | refine .mk 29 (by decide +kernel) ?_ | refine .mk 30 (by decide +kernel) ?_ | refine .mk 31 (by decide +kernel) ?_ | refine .mk 32 (by decide +kernel) ?_ | refine .mk 33 (by decide +kernel) ?_ | refine .mk 34 (by decide +kernel) ?_ | refine .mk 35 (by decide +kernel) ?_ | refine .mk 36 (by decide +kernel) ?_ | refine .mk 37 (by decide +kernel) ?_ | refine .mk 38 (by decide +kernel) ?_ | refine .mk 39 (by decide +kernel) ?_ | refine .mk 40 (by decide +kernel) ?_ | refine .mk 41 (by decide +kernel) ?_); (conv => whnf))
        | (refine HOLD.mk (by first | exact trivial | exact ⟨⟨rfl, rfl⟩, trivial⟩ | exact ⟨⟨rfl, rfl⟩, ⟨rfl, rfl⟩, trivial⟩) ?_; (conv => whnf))
        | (refine CALL0.cutBy lvPitches _ _ _ _ _ (leL_refl _) (hb ..) rfl ?_; conv => whnf)
        | (refine CALL0.mk _ _ _ _ _ (leL_refl _) (hb ..) rfl ?_; conv => whnf)
        | (refine CALLQ.mk _ _ _ (leL_refl _) (hb ..) rfl ?_; conv => whnf)
        | (refine CALL0.cutBy lvPitches _ _ _ _ _ (leL_refl _) (hB ..) rfl ?_; conv => whnf)
        | (refine CALL0.mk _ _ _ _ _ (leL_refl _) (hB ..) rfl ?_; conv => whnf)
        | (refine CALLQ.mk _ _ _ (leL_refl _) (hB ..) rfl ?_; conv => whnf)
        | (refine CALL0.cutBy lvPitches _ _ _ _ _ (leL_refl _) (hL ..) rfl ?_; conv => whnf)
        | (refine CALL0.mk _ _ _ _ _ (leL_refl _) (hL ..) rfl ?_; conv => whnf)
        | (refine CALLQ.mk _ _ _ (leL_refl _) (hL ..) rfl ?_; conv => whnf)
        | (refine CALL0.cutBy lvPitches _ _ _ _ _ (leL_refl _) (hE ..) rfl ?_; conv => whnf)
        | (refine CALL0.mk _ _ _ _ _ (leL_refl _) (hE ..) rfl ?_; conv => whnf)
        | (refine CALLQ.mk _ _ _ (leL_refl _) (hE ..) rfl ?_; conv => whnf)
        | (refine CALL0.cutBy lvPitches _ _ _ _ _ (leL_refl _) (hFl ..) rfl ?_; conv => whnf)
        | (refine CALL0.mk _ _ _ _ _ (leL_refl _) (hFl ..) rfl ?_; conv => whnf)
        | (refine CALLQ.mk _ _ _ (leL_refl _) (hFl ..) rfl ?_; conv => whnf)
        | (refine CALL0.cutBy lvPitches _ _ _ _ _ (leL_refl _) (c_rCheckDepth ..) rfl ?_; conv => whnf)
        | (refine CALL0.mk _ _ _ _ _ (leL_refl _) (c_rCheckDepth ..) rfl ?_; conv => whnf)
        | (refine CALLQ.mk _ _ _ (leL_refl _) (c_rCheckDepth ..) rfl ?_; conv => whnf)
        | (refine CALL0.cutBy lvPitches _ _ _ _ _ (leL_refl _) (hCP ..) rfl ?_; conv => whnf)
        | (refine CALL0.mk _ _ _ _ _ (leL_refl _) (hCP ..) rfl ?_; conv => whnf)
        | (refine CALLQ.mk _ _ _ (leL_refl _) (hCP ..) rfl ?_; conv => whnf)
        | (refine CALL0.cutBy lvPitches _ _ _ _ _ (leL_refl _) (hf4 ..) rfl ?_; conv => whnf)
        | (refine CALL0.mk _ _ _ _ _ (leL_refl _) (hf4 ..) rfl ?_; conv => whnf)
        | (refine CALLQ.mk _ _ _ (leL_refl _) (hf4 ..) rfl ?_; conv => whnf)
        | (refine CALL0.cutBy lvPitches _ _ _ _ _ (leL_refl _) (hCR ..) rfl ?_; conv => whnf)
        | (refine CALL0.mk _ _ _ _ _ (leL_refl _) (hCR ..) rfl ?_; conv => whnf)
        | (refine CALLQ.mk _ _ _ (leL_refl _) (hCR ..) rfl ?_; conv => whnf)
        | (refine CALL0.cutBy lvPitches _ _ _ _ _ (leL_refl _) (hf2 ..) rfl ?_; conv => whnf)
        | (refine CALL0.mk _ _ _ _ _ (leL_refl _) (hf2 ..) rfl ?_; conv => whnf)
        | (refine CALLQ.mk _ _ _ (leL_refl _) (hf2 ..) rfl ?_; conv => whnf)
      repeat first
        | (show DRAW _ _ _ _ _; (first | refine .mk 0 (by decide +kernel) ?_ | refine .mk 1 (by decide +kernel) ?_ | refine .mk 2 (by decide +kernel) ?_ | refine .mk 3 (by decide +kernel) ?_ | refine .mk 4 (by decide +kernel) ?_ | refine .mk 5 (by decide +kernel) ?_ | refine .mk 6 (by decide +kernel) ?_ | refine .mk 7 (by decide +kernel) ?_ | refine .mk 8 (by decide +kernel) ?_ | refine .mk 9 (by decide +kernel) ?_ | refine .mk 10 (by decide +kernel) ?_ | refine .mk 11 (by decide +kernel) ?_ | refine .mk 12 (by decide +kernel) ?_ | refine .mk 13 (by decide +kernel) ?_ | refine .mk 14 (by decide +kernel) ?_ | refine .mk 15 (by decide +kernel) ?_ | refine .mk 16 (by decide +kernel) ?_ | refine .mk 17 (by decide +kernel) ?_ | refine .mk 18 (by decide +kernel) ?_ | refine .mk 19 (by decide +kernel) ?_ | refine .mk 20 (by decide +kernel) ?_ | refine .mk 21 (by decide +kernel) ?_ | refine .mk 22 (by decide +kernel) ?_ | refine .mk 23 (by decide +kernel) ?_ | refine .mk 24 (by decide +kernel) ?_ | refine .mk 25 (by decide +kernel) ?_ | refine .mk 26 (by decide +kernel) ?_ | refine .mk 27 (by decide +kernel) ?_ | refine .mk 28 (by decide +kernel) ?_ | refine .mk 29 (by decide +kernel) ?_ | refine .mk 30 (by decide +kernel) ?_ | refine .mk 31 (by decide +kernel) ?_ | refine .mk 32 (by decide +kernel) ?_ | refine .mk 33 (by decide +kernel) ?_ | refine .mk 34 (by decide +kernel) ?_ | refine .mk 35 (by decide +kernel) ?_ | refine .mk 36 (by decide +kernel) ?_ | refine .mk 37 (by decide +kernel) ?_ | refine .mk 38 (by decide +kernel) ?_ | refine .mk 39 (by decide +kernel) ?_ | refine .mk 40 (by decide +kernel) ?_ | refine .mk 41 (by decide +kernel) ?_); (conv => whnf))
        | (refine HOLD.mk (by first | exact trivial | exact ⟨⟨rfl, rfl⟩, trivial⟩ | exact ⟨⟨rfl, rfl⟩, ⟨rfl, rfl⟩, trivial⟩) ?_; (conv => whnf))
        | (refine CALL0.cutBy lvPitches _ _ _ _ _ (leL_refl _) (hRB ..) rfl ?_; conv => whnf)
        | (refine CALL0.mk _ _ _ _ _ (leL_refl _) (hRB ..) rfl ?_; conv => whnf)
        | (refine CALLQ.mk _ _ _ (leL_refl _) (hRB ..) rfl ?_; conv => whnf)
      repeat first
        | (show DRAW _ _ _ _ _; (first | refine .mk 0 (by decide +kernel) ?_ | refine .mk 1 (by decide +kernel) ?_ | refine .mk 2 (by decide +kernel) ?_ | refine .mk 3 (by decide +kernel) ?_ | refine .mk 4 (by decide +kernel) ?_ | refine .mk 5 (by decide +kernel) ?_ | refine .mk 6 (by decide +kernel) ?_ | refine .mk 7 (by decide +kernel) ?_ | refine .mk 8 (by decide +kernel) ?_ | refine .mk 9 (by decide +kernel) ?_ | refine .mk 10 (by decide +kernel) ?_ | refine .mk 11 (by decide +kernel) ?_ | refine .mk 12 (by decide +kernel) ?_ | refine .mk 13 (by decide +kernel) ?_ | refine .mk 14 (by decide +kernel) ?_ | refine .mk 15 (by decide +kernel) ?_ | refine .mk 16 (by decide +kernel) ?_ | refine .mk 17 (by decide +kernel) ?_ | refine .mk 18 (by decide +kernel) ?_ | refine .mk 19 (by decide +kernel) ?_ | refine .mk 20 (by decide +kernel) ?_ | refine .mk 21 (by decide +kernel) ?_ | refine .mk 22 (by decide +kernel) ?_ | refine .mk 23 (by decide +kernel) ?_ | refine .mk 24 (by decide +kernel) ?_ | refine .mk 25 (by decide +kernel) ?_ | refine .mk 26 (by decide +kernel) ?_ | refine .mk 27 (by decide +kernel) ?_ | refine .mk 28 (by decide +kernel) ?_ | refine .mk 29 (by decide +kernel) ?_ | refine .mk 30 (by decide +kernel) ?_ | refine .mk 31 (by decide +kernel) ?_ | refine .mk 32 (by decide +kernel) ?_ | refine .mk 33 (by decide +kernel) ?_ | refine .mk 34 (by decide +kernel) ?_ | refine .mk 35 (by decide +kernel) ?_ | refine .mk 36 (by decide +kernel) ?_ | refine .mk 37 (by decide +kernel) ?_ | refine .mk 38 (by decide +kernel) ?_ | refine .mk 39 (by decide +kernel) ?_ | refine .mk 40 (by decide +kernel) ?_ | refine .mk 41 (by decide +kernel) ?_); (conv => whnf))
        | (refine HOLD.mk (by first | exact trivial | exact ⟨⟨rfl, rfl⟩, trivial⟩ | exact ⟨⟨rfl, rfl⟩, ⟨rfl, rfl⟩, trivial⟩) ?_; (conv => whnf))
        | (refine CALL0.cutBy lvPitches _ _ _ _ _ (leL_refl _) (hRL ..) rfl ?_; conv => whnf)
        | (refine CALL0.mk _ _ _ _ _ (leL_refl _) (hRL ..) rfl ?_; conv => whnf)
        | (refine CALLQ.mk _ _ _ (leL_refl _) (hRL ..) rfl ?_; conv => whnf)
        | (refine CALL0.cutBy lvPitches _ _ _ _ _ (leL_refl _) (hn1 ..) rfl ?_; conv => whnf)
        | (refine CALL0.mk _ _ _ _ _ (leL_refl _) (hn1 ..) rfl ?_; conv => whnf)
        | (refine CALLQ.mk _ _ _ (leL_refl _) (hn1 ..) rfl ?_; conv => whnf)
        | (refine CALL0.cutBy lvPitches _ _ _ _ _ (leL_refl _) (hn2 ..) rfl ?_; conv => whnf)
        | (refine CALL0.mk _ _ _ _ _ (leL_refl _) (hn2 ..) rfl ?_; conv => whnf)
        | (refine CALLQ.mk _ _ _ (leL_refl _) (hn2 ..) rfl ?_; conv => whnf)
        | (refine CALL0.cutBy lvPitches _ _ _ _ _ (leL_refl _) (hsp ..) rfl ?_; conv => whnf)
        | (refine CALL0.mk _ _ _ _ _ (leL_refl _) (hsp ..) rfl ?_; conv => whnf)
        | (refine CALLQ.mk _ _ _ (leL_refl _) (hsp ..) rfl ?_; conv => whnf)
      repeat first
        | exact ⟨rfl, rfl⟩
        | (split; rotate_left; (rename_i hz; exact absurd hz (by simp)); (conv => whnf))
        | exact ⟨by simp, rfl⟩
    | some L =>
      rw [hlim] at hL hRL
      simp only [limO] at hRL
      simp only at hL
      have hn2 := fun up => c_number (gl := gl) up L 0 0 L rfl (fun h => absurd rfl h) (fun _ => rfl)
      refine mk h_nacellelaw03_RotorPitches rfl rfl ?_
      conv => whnf
      repeat first
        | (show DRAW _ _ _ _ _; (first | refine .mk 0 (by decide +kernel) ?_ | refine .mk 1 (by decide +kernel) ?_ | refine .mk 2 (by decide +kernel) ?_ | refine .mk 3 (by decide +kernel) ?_ | refine .mk 4 (by decide +kernel) ?_ | refine .mk 5 (by decide +kernel) ?_ | refine .mk 6 (by decide +kernel) ?_ | refine .mk 7 (by decide +kernel) ?_ | refine .mk 8 (by decide +kernel) ?_ | refine .mk 9 (by decide +kernel) ?_ | refine .mk 10 (by decide +kernel) ?_ | refine .mk 11 (by decide +kernel) ?_ | refine .mk 12 (by decide +kernel) ?_ | refine .mk 13 (by decide +kernel) ?_ | refine .mk 14 (by decide +kernel) ?_ | refine .mk 15 (by decide +kernel) ?_ | refine .mk 16 (by decide +kernel) ?_ | refine .mk 17 (by decide +kernel) ?_ | refine .mk 18 (by decide +kernel) ?_ | refine .mk 19 (by decide +kernel) ?_ | refine .mk 20 (by decide +kernel) ?_ | refine .mk 21 (by decide +kernel) ?_ | refine .mk 22 (by decide +kernel) ?_ | refine .mk 23 (by decide +kernel) ?_ | refine .mk 24 (by decide +kernel) ?_ | refine .mk 25 (by decide +kernel) ?_ | refine .mk 26 (by decide +kernel) ?_ | refine .mk 27 (by decide +kernel) ?_ | refine .mk 28 (by decide +kernel) ?_ | refine .mk 29 (by decide +kernel) ?_ | refine .mk 30 (by decide +kernel) ?_ | refine .mk 31 (by decide +kernel) ?_ | refine .mk 32 (by decide +kernel) ?_ | refine .mk 33 (by decide +kernel) ?_ | refine .mk 34 (by decide +kernel) ?_ | refine .mk 35 (by decide +kernel) ?_ | refine .mk 36 (by decide +kernel) ?_ | refine .mk 37 (by decide +kernel) ?_ | refine .mk 38 (by decide +kernel) ?_ | refine .mk 39 (by decide +kernel) ?_ | refine .mk 40 (by decide +kernel) ?_ | refine .mk 41 (by decide +kernel) ?_); (conv => whnf))
        | (refine HOLD.mk (by first | exact trivial | exact ⟨⟨rfl, rfl⟩, trivial⟩ | exact ⟨⟨rfl, rfl⟩, ⟨rfl, rfl⟩, trivial⟩) ?_; (conv => whnf))
        | (refine CALL0.cutBy lvPitches _ _ _ _ _ (leL_refl _) (hA ..) rfl ?_; conv => whnf)
        | (refine CALL0.mk _ _ _ _ _ (leL_refl _) (hA ..) rfl ?_; conv => whnf)
        | (refine CALLQ.mk _ _ _ (leL_refl _) (hA ..) rfl ?_; conv => whnf)
        | (refine CALL0.cutBy lvPitches _ _ _ _ _ (leL_refl _) (hS ..) rfl ?_; conv => whnf)
        | (refine CALL0.mk _ _ _ _ _ (leL_refl _) (hS ..) rfl ?_; conv => whnf)
        | (refine CALLQ.mk _ _ _ (leL_refl _) (hS ..) rfl ?_; conv => whnf)
      split
      · rename_i h
        exact Bool.noConfusion ((q1).symm.trans h)
      rename_i hN
      clear hN
      conv => whnf
      repeat first
        | (show DRAW _ _ _ _ _; (first | refine .mk 0 (by decide +kernel) ?_ | refine .mk 1 (by decide +kernel) ?_ | refine .mk 2 (by decide +kernel) ?_ | refine .mk 3 (by decide +kernel) ?_ | refine .mk 4 (by decide +kernel) ?_ | refine .mk 5 (by decide +kernel) ?_ | refine .mk 6 (by decide +kernel) ?_ | refine .mk 7 (by decide +kernel) ?_ | refine .mk 8 (by decide +kernel) ?_ | refine .mk 9 (by decide +kernel) ?_ | refine .mk 10 (by decide +kernel) ?_ | refine .mk 11 (by decide +kernel) ?_ | refine .mk 12 (by decide +kernel) ?_ | refine .mk 13 (by decide +kernel) ?_ | refine .mk 14 (by decide +kernel) ?_ | refine .mk 15 (by decide +kernel) ?_ | refine .mk 16 (by decide +kernel) ?_ | refine .mk 17 (by decide +kernel) ?_ | refine .mk 18 (by decide +kernel) ?_ | refine .mk 19 (by decide +kernel) ?_ | refine .mk 20 (by decide +kernel) ?_ | refine .mk 21 (by decide +kernel) ?_ | refine .mk 22 (by decide +kernel) ?_ | refine .mk 23 (by decide +kernel) ?_ | refine .mk 24 (by decide +kernel) ?_ | refine .mk 25 (by decide +kernel) ?_ | refine .mk 26 (by decide +kernel) ?_ | refine .mk 27 (by decide +kernel) ?_ | refine .mk 28 (by decide +kernel) ?_ | refine .mk 29 (by decide +kernel) ?_ | refine .mk 30 (by decide +kernel) ?_ | refine .mk 31 (by decide +kernel) ?_ | refine .mk 32 (by decide +kernel) ?_ | refine .mk 33 (by decide +kernel) ?_ | refine .mk 34 (by decide +kernel) ?_ | refine .mk 35 (by decide +kernel) ?_ | refine .mk 36 (by decide +kernel) ?_ | refine .mk 37 (by decide +kernel) ?_ | refine .mk 38 (by decide +kernel) ?_ | refine .mk 39 (by decide +kernel) ?_ | refine .mk 40 (by decide +kernel) ?_ | refine .mk 41 (by decide +kernel) ?_); (conv => whnf))
        | (refine HOLD.mk (by first | exact trivial | exact ⟨⟨rfl, rfl⟩, trivial⟩ | exact ⟨⟨rfl, rfl⟩, ⟨rfl, rfl⟩, trivial⟩) ?_; (conv => whnf))
        | (refine CALL0.cutBy lvPitches _ _ _ _ _ (leL_refl _) (hCP ..) rfl ?_; conv => whnf)
        | (refine CALL0.mk _ _ _ _ _ (leL_refl _) (hCP ..) rfl ?_; conv => whnf)
        | (refine CALLQ.mk _ _ _ (leL_refl _) (hCP ..) rfl ?_; conv => whnf)
      split
      · rename_i h
        exact Bool.noConfusion ((q4).symm.trans h)
      rename_i hN
      clear hN
      conv => whnf
      repeat first
        | (show DRAW _ _ _ _ _; (first | refine .mk 0 (by decide +kernel) ?_ | refine .mk 1 (by decide +kernel) ?_ | refine .mk 2 (by decide +kernel) ?_ | refine .mk 3 (by decide +kernel) ?_ | refine .mk 4 (by decide +kernel) ?_ | refine .mk 5 (by decide +kernel) ?_ | refine .mk 6 (by decide +kernel) ?_ | refine .mk 7 (by decide +kernel) ?_ | refine .mk 8 (by decide +kernel) ?_ | refine .mk 9 (by decide +kernel) ?_ | refine .mk 10 (by decide +kernel) ?_ | refine .mk 11 (by decide +kernel) ?_ | refine .mk 12 (by decide +kernel) ?_ | refine .mk 13 (by decide +kernel) ?_ | refine .mk 14 (by decide +kernel) ?_ | refine .mk 15 (by decide +kernel) ?_ | refine .mk 16 (by decide +kernel) ?_ | refine .mk 17 (by decide +kernel) ?_ | refine .mk 18 (by decide +kernel) ?_ | refine .mk 19 (by decide +kernel) ?_ | refine .mk 20 (by decide +kernel) ?_ | refine .mk 21 (by decide +kernel) ?_ | refine .mk 22 (by decide +kernel) ?_ | refine .mk 23 (by decide +kernel) ?_ | refine .mk 24 (by decide +kernel) ?_ | refine .mk 25 (by decide +kernel) ?_ | refine .mk 26 (by decide +kernel) ?_ | refine .mk 27 (by decide +kernel) ?_ | refine .mk 28 (by decide +kernel) ?_ | refine .mk 29 (by decide +kernel) ?_ | refine .mk 30 (by decide +kernel) ?_ | refine .mk 31 (by decide +kernel) ?_ | refine .mk 32 (by decide +kernel) ?_ | refine .mk 33 (by decide +kernel) ?_ | refine .mk 34 (by decide +kernel) ?_ | refine .mk 35 (by decide +kernel) ?_ | refine .mk 36 (by decide +kernel) ?_ | refine .mk 37 (by decide +kernel) ?_ | refine .mk 38 (by decide +kernel) ?_ | refine .mk 39 (by decide +kernel) ?_ | refine .mk 40 (by decide +kernel) ?_ | refine .mk 41 (by decide +kernel) ?_); (conv => whnf))
        | (refine HOLD.mk (by first | exact trivial | exact ⟨⟨rfl, rfl⟩, trivial⟩ | exact ⟨⟨rfl, rfl⟩, ⟨rfl, rfl⟩, trivial⟩) ?_; (conv => whnf))
        | (refine CALL0.cutBy lvPitches _ _ _ _ _ (leL_refl _) (hb ..) rfl ?_; conv => whnf)
        | (refine CALL0.mk _ _ _ _ _ (leL_refl _) (hb ..) rfl ?_; conv => whnf)
        | (refine CALLQ.mk _ _ _ (leL_refl _) (hb ..) rfl ?_; conv => whnf)
        | (refine CALL0.cutBy lvPitches _ _ _ _ _ (leL_refl _) (hB ..) rfl ?_; conv => whnf)
        | (refine CALL0.mk _ _ _ _ _ (leL_refl _) (hB ..) rfl ?_; conv => whnf)
        | (refine CALLQ.mk _ _ _ (leL_refl _) (hB ..) rfl ?_; conv => whnf)
        | (refine CALL0.cutBy lvPitches _ _ _ _ _ (leL_refl _) (hL ..) rfl ?_; conv => whnf)
        | (refine CALL0.mk _ _ _ _ _ (leL_refl _) (hL ..) rfl ?_; conv => whnf)
        | (refine CALLQ.mk _ _ _ (leL_refl _) (hL ..) rfl ?_; conv => whnf)
        | (refine CALL0.cutBy lvPitches _ _ _ _ _ (leL_refl _) (hE ..) rfl ?_; conv => whnf)
        | (refine CALL0.mk _ _ _ _ _ (leL_refl _) (hE ..) rfl ?_; conv => whnf)
        | (refine CALLQ.mk _ _ _ (leL_refl _) (hE ..) rfl ?_; conv => whnf)
        | (refine CALL0.cutBy lvPitches _ _ _ _ _ (leL_refl _) (hFl ..) rfl ?_; conv => whnf)
        | (refine CALL0.mk _ _ _ _ _ (leL_refl _) (hFl ..) rfl ?_; conv => whnf)
        | (refine CALLQ.mk _ _ _ (leL_refl _) (hFl ..) rfl ?_; conv => whnf)
        | (refine CALL0.cutBy lvPitches _ _ _ _ _ (leL_refl _) (c_rCheckDepth ..) rfl ?_; conv => whnf)
        | (refine CALL0.mk _ _ _ _ _ (leL_refl _) (c_rCheckDepth ..) rfl ?_; conv => whnf)
        | (refine CALLQ.mk _ _ _ (leL_refl _) (c_rCheckDepth ..) rfl ?_; conv => whnf)
        | (refine CALL0.cutBy lvPitches _ _ _ _ _ (leL_refl _) (hCP ..) rfl ?_; conv => whnf)
        | (refine CALL0.mk _ _ _ _ _ (leL_refl _) (hCP ..) rfl ?_; conv => whnf)
        | (refine CALLQ.mk _ _ _ (leL_refl _) (hCP ..) rfl ?_; conv => whnf)
        | (refine CALL0.cutBy lvPitches _ _ _ _ _ (leL_refl _) (hf4 ..) rfl ?_; conv => whnf)
        | (refine CALL0.mk _ _ _ _ _ (leL_refl _) (hf4 ..) rfl ?_; conv => whnf)
        | (refine CALLQ.mk _ _ _ (leL_refl _) (hf4 ..) rfl ?_; conv => whnf)
        | (refine CALL0.cutBy lvPitches _ _ _ _ _ (leL_refl _) (hCR ..) rfl ?_; conv => whnf)
        | (refine CALL0.mk _ _ _ _ _ (leL_refl _) (hCR ..) rfl ?_; conv => whnf)
        | (refine CALLQ.mk _ _ _ (leL_refl _) (hCR ..) rfl ?_; conv => whnf)
        | (refine CALL0.cutBy lvPitches _ _ _ _ _ (leL_refl _) (hf2 ..) rfl ?_; conv => whnf)
        | (refine CALL0.mk _ _ _ _ _ (leL_refl _) (hf2 ..) rfl ?_; conv => whnf)
        | (refine CALLQ.mk _ _ _ (leL_refl _) (hf2 ..) rfl ?_; conv => whnf)
      repeat first
        | (show DRAW _ _ _ _ _; (first | refine .mk 0 (by decide +kernel) ?_ | refine .mk 1 (by decide +kernel) ?_ | refine .mk 2 (by decide +kernel) ?_ | refine .mk 3 (by decide +kernel) ?_ | refine .mk 4 (by decide +kernel) ?_ | refine .mk 5 (by decide +kernel) ?_ | refine .mk 6 (by decide +kernel) ?_ | refine .mk 7 (by decide +kernel) ?_ | refine .mk 8 (by decide +kernel) ?_ | refine .mk 9 (by decide +kernel) ?_ | refine .mk 10 (by decide +kernel) ?_ | refine .mk 11 (by decide +kernel) ?_ | refine .mk 12 (by decide +kernel) ?_ | refine .mk 13 (by decide +kernel) ?_ | refine .mk 14 (by decide +kernel) ?_ | refine .mk 15 (by decide +kernel) ?_ | refine .mk 16 (by decide +kernel) ?_ | refine .mk 17 (by decide +kernel) ?_ | refine .mk 18 (by decide +kernel) ?_ | refine .mk 19 (by decide +kernel) ?_ | refine .mk 20 (by decide +kernel) ?_ | refine .mk 21 (by decide +kernel) ?_ | refine .mk 22 (by decide +kernel) ?_ | refine .mk 23 (by decide +kernel) ?_ | refine .mk 24 (by decide +kernel) ?_ | refine .mk 25 (by decide +kernel) ?_ | refine .mk 26 (by decide +kernel) ?_ | refine .mk 27 (by decide +kernel) ?_ | refine .mk 28 (by decide +kernel) ?_ | refine .mk 29 (by decide +kernel) ?_ | refine .mk 30 (by decide +kernel) ?_ | refine .mk 31 (by decide +kernel) ?_ | refine .mk 32 (by decide +kernel) ?_ | refine .mk 33 (by decide +kernel) ?_ | refine .mk 34 (by decide +kernel) ?_ | refine .mk 35 (by decide +kernel) ?_ | refine .mk 36 (by decide +kernel) ?_ | refine .mk 37 (by decide +kernel) ?_ | refine .mk 38 (by decide +kernel) ?_ | refine .mk 39 (by decide +kernel) ?_ | refine .mk 40 (by decide +kernel) ?_ | refine .mk 41 (by decide +kernel) ?_); (conv => whnf))
        | (refine HOLD.mk (by first | exact trivial | exact ⟨⟨rfl, rfl⟩, trivial⟩ | exact ⟨⟨rfl, rfl⟩, ⟨rfl, rfl⟩, trivial⟩) ?_; (conv => whnf))
        | (refine CALL0.cutBy lvPitches _ _ _ _ _ (leL_refl _) (hRB ..) rfl ?_; conv => whnf)
        | (refine CALL0.mk _ _ _ _ _ (leL_refl _) (hRB ..) rfl ?_; conv => whnf)
        | (refine CALLQ.mk _ _ _ (leL_refl _) (hRB ..) rfl ?_; conv => whnf)
      repeat first
        | (show DRAW _ _ _ _ _; (first | refine .mk 0 (by decide +kernel) ?_ | refine .mk 1 (by decide +kernel) ?_ | refine .mk 2 (by decide +kernel) ?_ | refine .mk 3 (by decide +kernel) ?_ | refine .mk 4 (by decide +kernel) ?_ | refine .mk 5 (by decide +kernel) ?_ | refine .mk 6 (by decide +kernel) ?_ | refine .mk 7 (by decide +kernel) ?_ | refine .mk 8 (by decide +kernel) ?_ | refine .mk 9 (by decide +kernel) ?_ | refine .mk 10 (by decide +kernel) ?_ | refine .mk 11 (by decide +kernel) ?_ | refine .mk 12 (by decide +kernel) ?_ | refine .mk 13 (by decide +kernel) ?_ | refine .mk 14 (by decide +kernel) ?_ | refine .mk 15 (by decide +kernel) ?_ | refine .mk 16 (by decide +kernel) ?_ | refine .mk 17 (by decide +kernel) ?_ | refine .mk 18 (by decide +kernel) ?_ | refine .mk 19 (by decide +kernel) ?_ | refine .mk 20 (by decide +kernel) ?_ | refine .mk 21 (by decide +kernel) ?_ | refine .mk 22 (by decide +kernel) ?_ | refine .mk 23 (by decide +kernel) ?_ | refine .mk 24 (by decide +kernel) ?_ | refine .mk 25 (by decide +kernel) ?_ | refine .mk 26 (by decide +kernel) ?_ | refine .mk 27 (by decide +kernel) ?_ | refine .mk 28 (by decide +kernel) ?_ | refine .mk 29 (by decide +kernel) ?_ | refine .mk 30 (by decide +kernel) ?_ | refine .mk 31 (by decide +kernel) ?_ | refine .mk 32 (by decide +kernel) ?_ | refine .mk 33 (by decide +kernel) ?_ | refine .mk 34 (by decide +kernel) ?_ | refine .mk 35 (by decide +kernel) ?_ | refine .mk 36 (by decide +kernel) ?_ | refine .mk 37 (by decide +kernel) ?_ | refine .mk 38 (by decide +kernel) ?_ | refine .mk 39 (by decide +kernel) ?_ | refine .mk 40 (by decide +kernel) ?_ | refine .mk 41 (by decide +kernel) ?_); (conv => whnf))
        | (refine HOLD.mk (by first | exact trivial | exact ⟨⟨rfl, rfl⟩, trivial⟩ | exact ⟨⟨rfl, rfl⟩, ⟨rfl, rfl⟩, trivial⟩) ?_; (conv => whnf))
        | (refine CALL0.cutBy lvPitches _ _ _ _ _ (leL_refl _) (hRL ..) rfl ?_; conv => whnf)
        | (refine CALL0.mk _ _ _ _ _ (leL_refl _) (hRL ..) rfl ?_; conv => whnf)
        | (refine CALLQ.mk _ _ _ (leL_refl _) (hRL ..) rfl ?_; conv => whnf)
        | (refine CALL0.cutBy lvPitches _ _ _ _ _ (leL_refl _) (hn1 ..) rfl ?_; conv => whnf)
        | (refine CALL0.mk _ _ _ _ _ (leL_refl _) (hn1 ..) rfl ?_; conv => whnf)
        | (refine CALLQ.mk _ _ _ (leL_refl _) (hn1 ..) rfl ?_; conv => whnf)
        | (refine CALL0.cutBy lvPitches _ _ _ _ _ (leL_refl _) (hn2 ..) rfl ?_; conv => whnf)
        | (refine CALL0.mk _ _ _ _ _ (leL_refl _) (hn2 ..) rfl ?_; conv => whnf)
        | (refine CALLQ.mk _ _ _ (leL_refl _) (hn2 ..) rfl ?_; conv => whnf)
        | (refine CALL0.cutBy lvPitches _ _ _ _ _ (leL_refl _) (hsp ..) rfl ?_; conv => whnf)
        | (refine CALL0.mk _ _ _ _ _ (leL_refl _) (hsp ..) rfl ?_; conv => whnf)
        | (refine CALLQ.mk _ _ _ (leL_refl _) (hsp ..) rfl ?_; conv => whnf)
      repeat first
        | exact ⟨rfl, rfl⟩
        | (split; rotate_left; (rename_i hz; exact absurd hz (by simp)); (conv => whnf))
        | exact ⟨by simp, rfl⟩
  | false =>
    have h0 := hno rfl
    simp only [Prod.mk.injEq] at h0
    obtain ⟨rfl, ⟨rfl, rfl⟩, -⟩ := h0
    have hsp := fun up => c_span (gl := gl) up 0 0 7 7 0 0 rfl (fun _ => ⟨rfl, rfl⟩) (fun h => absurd h (by decide))
    have hn1 := fun up => c_number (gl := gl) up 0 7 7 0 rfl (fun _ => rfl) (fun h => absurd h (by decide))
    simp only [Bool.not_false, cond_true] at hB
    by_cases zW : W = 0
    rotate_left
    · have qW : (W != 0) = true := by simpa using zW
      have qW2 : (W == 0) = false := by simpa using zW
      rw [qW, cond_true] at hL
      have hn2 := fun up => c_number (gl := gl) up 0 W W 0 rfl (fun _ => rfl) (fun _ => rfl)
      refine mk h_nacellelaw03_RotorPitches rfl rfl ?_
      conv => whnf
      repeat first
        | (show DRAW _ _ _ _ _; (first | refine .mk 0 (by decide +kernel) ?_ | refine .mk 1 (by decide +kernel) ?_ | refine .mk 2 (by decide +kernel) ?_ | refine .mk 3 (by decide +kernel) ?_ | refine .mk 4 (by decide +kernel) ?_ | refine .mk 5 (by decide +kernel) ?_ | refine .mk 6 (by decide +kernel) ?_ | refine .mk 7 (by decide +kernel) ?_ | refine .mk 8 (by decide +kernel) ?_ | refine .mk 9 (by decide +kernel) ?_ | refine .mk 10 (by decide +kernel) ?_ | refine .mk 11 (by decide +kernel) ?_ | refine .mk 12 (by decide +kernel) ?_ | refine .mk 13 (by decide +kernel) ?_ | refine .mk 14 (by decide +kernel) ?_ | refine .mk 15 (by decide +kernel) ?_ | refine .mk 16 (by decide +kernel) ?_ | refine .mk 17 (by decide +kernel) ?_ | refine .mk 18 (by decide +kernel) ?_ | refine .mk 19 (by decide +kernel) ?_ | refine .mk 20 (by decide +kernel) ?_ | refine .mk 21 (by decide +kernel) ?_ | refine .mk 22 (by decide +kernel) ?_ | refine .mk 23 (by decide +kernel) ?_ | refine .mk 24 (by decide +kernel) ?_ | refine .mk 25 (by decide +kernel) ?_ | refine .mk 26 (by decide +kernel) ?_ | refine .mk 27 (by decide +kernel) ?_ | refine .mk 28 (by decide +kernel) ?_ | refine .mk 29 (by decide +kernel) ?_ | refine .mk 30 (by decide +kernel) ?_ | refine .mk 31 (by decide +kernel) ?_ | refine .mk 32 (by decide +kernel) ?_ | refine .mk 33 (by decide +kernel) ?_ | refine .mk 34 (by decide +kernel) ?_ | refine .mk 35 (by decide +kernel) ?_ | refine .mk 36 (by decide +kernel) ?_ | refine .mk 37 (by decide +kernel) ?_ | refine .mk 38 (by decide +kernel) ?_ | refine .mk 39 (by decide +kernel) ?_ | refine .mk 40 (by decide +kernel) ?_ | refine .mk 41 (by decide +kernel) ?_); (conv => whnf))
        | (refine HOLD.mk (by first | exact trivial | exact ⟨⟨rfl, rfl⟩, trivial⟩ | exact ⟨⟨rfl, rfl⟩, ⟨rfl, rfl⟩, trivial⟩) ?_; (conv => whnf))
        | (refine CALL0.cutBy lvPitches _ _ _ _ _ (leL_refl _) (hA ..) rfl ?_; conv => whnf)
        | (refine CALL0.mk _ _ _ _ _ (leL_refl _) (hA ..) rfl ?_; conv => whnf)
        | (refine CALLQ.mk _ _ _ (leL_refl _) (hA ..) rfl ?_; conv => whnf)
        | (refine CALL0.cutBy lvPitches _ _ _ _ _ (leL_refl _) (hS ..) rfl ?_; conv => whnf)
        | (refine CALL0.mk _ _ _ _ _ (leL_refl _) (hS ..) rfl ?_; conv => whnf)
        | (refine CALLQ.mk _ _ _ (leL_refl _) (hS ..) rfl ?_; conv => whnf)
      split
      · rename_i h
        exact Bool.noConfusion ((q1).symm.trans h)
      rename_i hN
      clear hN
      conv => whnf
      repeat first
        | (show DRAW _ _ _ _ _; (first | refine .mk 0 (by decide +kernel) ?_ | refine .mk 1 (by decide +kernel) ?_ | refine .mk 2 (by decide +kernel) ?_ | refine .mk 3 (by decide +kernel) ?_ | refine .mk 4 (by decide +kernel) ?_ | refine .mk 5 (by decide +kernel) ?_ | refine .mk 6 (by decide +kernel) ?_ | refine .mk 7 (by decide +kernel) ?_ | refine .mk 8 (by decide +kernel) ?_ | refine .mk 9 (by decide +kernel) ?_ | refine .mk 10 (by decide +kernel) ?_ | refine .mk 11 (by decide +kernel) ?_ | refine .mk 12 (by decide +kernel) ?_ | refine .mk 13 (by decide +kernel) ?_ | refine .mk 14 (by decide +kernel) ?_ | refine .mk 15 (by decide +kernel) ?_ | refine .mk 16 (by decide +kernel) ?_ | refine .mk 17 (by decide +kernel) ?_ | refine .mk 18 (by decide +kernel) ?_ | refine .mk 19 (by decide +kernel) ?_ | refine .mk 20 (by decide +kernel) ?_ | refine .mk 21 (by decide +kernel) ?_ | refine .mk 22 (by decide +kernel) ?_ | refine .mk 23 (by decide +kernel) ?_ | refine .mk 24 (by decide +kernel) ?_ | refine .mk 25 (by decide +kernel) ?_ | refine .mk 26 (by decide +kernel) ?_ | refine .mk 27 (by decide +kernel) ?_ | refine .mk 28 (by decide +kernel) ?_ | refine .mk 29 (by decide +kernel) ?_ | refine .mk 30 (by decide +kernel) ?_ | refine .mk 31 (by decide +kernel) ?_ | refine .mk 32 (by decide +kernel) ?_ | refine .mk 33 (by decide +kernel) ?_ | refine .mk 34 (by decide +kernel) ?_ | refine .mk 35 (by decide +kernel) ?_ | refine .mk 36 (by decide +kernel) ?_ | refine .mk 37 (by decide +kernel) ?_ | refine .mk 38 (by decide +kernel) ?_ | refine .mk 39 (by decide +kernel) ?_ | refine .mk 40 (by decide +kernel) ?_ | refine .mk 41 (by decide +kernel) ?_); (conv => whnf))
        | (refine HOLD.mk (by first | exact trivial | exact ⟨⟨rfl, rfl⟩, trivial⟩ | exact ⟨⟨rfl, rfl⟩, ⟨rfl, rfl⟩, trivial⟩) ?_; (conv => whnf))
        | (refine CALL0.cutBy lvPitches _ _ _ _ _ (leL_refl _) (hCP ..) rfl ?_; conv => whnf)
        | (refine CALL0.mk _ _ _ _ _ (leL_refl _) (hCP ..) rfl ?_; conv => whnf)
        | (refine CALLQ.mk _ _ _ (leL_refl _) (hCP ..) rfl ?_; conv => whnf)
      split
      · rename_i h
        exact Bool.noConfusion ((q4).symm.trans h)
      rename_i hN
      clear hN
      conv => whnf
      repeat first
        | (show DRAW _ _ _ _ _; (first | refine .mk 0 (by decide +kernel) ?_ | refine .mk 1 (by decide +kernel) ?_ | refine .mk 2 (by decide +kernel) ?_ | refine .mk 3 (by decide +kernel) ?_ | refine .mk 4 (by decide +kernel) ?_ | refine .mk 5 (by decide +kernel) ?_ | refine .mk 6 (by decide +kernel) ?_ | refine .mk 7 (by decide +kernel) ?_ | refine .mk 8 (by decide +kernel) ?_ | refine .mk 9 (by decide +kernel) ?_ | refine .mk 10 (by decide +kernel) ?_ | refine .mk 11 (by decide +kernel) ?_ | refine .mk 12 (by decide +kernel) ?_ | refine .mk 13 (by decide +kernel) ?_ | refine .mk 14 (by decide +kernel) ?_ | refine .mk 15 (by decide +kernel) ?_ | refine .mk 16 (by decide +kernel) ?_ | refine .mk 17 (by decide +kernel) ?_ | refine .mk 18 (by decide +kernel) ?_ | refine .mk 19 (by decide +kernel) ?_ | refine .mk 20 (by decide +kernel) ?_ | refine .mk 21 (by decide +kernel) ?_ | refine .mk 22 (by decide +kernel) ?_ | refine .mk 23 (by decide +kernel) ?_ | refine .mk 24 (by decide +kernel) ?_ | refine .mk 25 (by decide +kernel) ?_ | refine .mk 26 (by decide +kernel) ?_ | refine .mk 27 (by decide +kernel) ?_ | refine .mk 28 (by decide +kernel) ?_ | refine .mk 29 (by decide +kernel) ?_ | refine .mk 30 (by decide +kernel) ?_ | refine .mk 31 (by decide +kernel) ?_ | refine .mk 32 (by decide +kernel) ?_ | refine .mk 33 (by decide +kernel) ?_ | refine .mk 34 (by decide +kernel) ?_ | refine .mk 35 (by decide +kernel) ?_ | refine .mk 36 (by decide +kernel) ?_ | refine .mk 37 (by decide +kernel) ?_ | refine .mk 38 (by decide +kernel) ?_ | refine .mk 39 (by decide +kernel) ?_ | refine .mk 40 (by decide +kernel) ?_ | refine .mk 41 (by decide +kernel) ?_); (conv => whnf))
        | (refine HOLD.mk (by first | exact trivial | exact ⟨⟨rfl, rfl⟩, trivial⟩ | exact ⟨⟨rfl, rfl⟩, ⟨rfl, rfl⟩, trivial⟩) ?_; (conv => whnf))
        | (refine CALL0.cutBy lvPitches _ _ _ _ _ (leL_refl _) (hb ..) rfl ?_; conv => whnf)
        | (refine CALL0.mk _ _ _ _ _ (leL_refl _) (hb ..) rfl ?_; conv => whnf)
        | (refine CALLQ.mk _ _ _ (leL_refl _) (hb ..) rfl ?_; conv => whnf)
        | (refine CALL0.cutBy lvPitches _ _ _ _ _ (leL_refl _) (hB ..) rfl ?_; conv => whnf)
        | (refine CALL0.mk _ _ _ _ _ (leL_refl _) (hB ..) rfl ?_; conv => whnf)
        | (refine CALLQ.mk _ _ _ (leL_refl _) (hB ..) rfl ?_; conv => whnf)
        | (refine CALL0.cutBy lvPitches _ _ _ _ _ (leL_refl _) (hL ..) rfl ?_; conv => whnf)
        | (refine CALL0.mk _ _ _ _ _ (leL_refl _) (hL ..) rfl ?_; conv => whnf)
        | (refine CALLQ.mk _ _ _ (leL_refl _) (hL ..) rfl ?_; conv => whnf)
        | (refine CALL0.cutBy lvPitches _ _ _ _ _ (leL_refl _) (hE ..) rfl ?_; conv => whnf)
        | (refine CALL0.mk _ _ _ _ _ (leL_refl _) (hE ..) rfl ?_; conv => whnf)
        | (refine CALLQ.mk _ _ _ (leL_refl _) (hE ..) rfl ?_; conv => whnf)
        | (refine CALL0.cutBy lvPitches _ _ _ _ _ (leL_refl _) (hFl ..) rfl ?_; conv => whnf)
        | (refine CALL0.mk _ _ _ _ _ (leL_refl _) (hFl ..) rfl ?_; conv => whnf)
        | (refine CALLQ.mk _ _ _ (leL_refl _) (hFl ..) rfl ?_; conv => whnf)
        | (refine CALL0.cutBy lvPitches _ _ _ _ _ (leL_refl _) (c_rCheckDepth ..) rfl ?_; conv => whnf)
        | (refine CALL0.mk _ _ _ _ _ (leL_refl _) (c_rCheckDepth ..) rfl ?_; conv => whnf)
        | (refine CALLQ.mk _ _ _ (leL_refl _) (c_rCheckDepth ..) rfl ?_; conv => whnf)
        | (refine CALL0.cutBy lvPitches _ _ _ _ _ (leL_refl _) (hCP ..) rfl ?_; conv => whnf)
        | (refine CALL0.mk _ _ _ _ _ (leL_refl _) (hCP ..) rfl ?_; conv => whnf)
        | (refine CALLQ.mk _ _ _ (leL_refl _) (hCP ..) rfl ?_; conv => whnf)
        | (refine CALL0.cutBy lvPitches _ _ _ _ _ (leL_refl _) (hf4 ..) rfl ?_; conv => whnf)
        | (refine CALL0.mk _ _ _ _ _ (leL_refl _) (hf4 ..) rfl ?_; conv => whnf)
        | (refine CALLQ.mk _ _ _ (leL_refl _) (hf4 ..) rfl ?_; conv => whnf)
        | (refine CALL0.cutBy lvPitches _ _ _ _ _ (leL_refl _) (hCR ..) rfl ?_; conv => whnf)
        | (refine CALL0.mk _ _ _ _ _ (leL_refl _) (hCR ..) rfl ?_; conv => whnf)
        | (refine CALLQ.mk _ _ _ (leL_refl _) (hCR ..) rfl ?_; conv => whnf)
        | (refine CALL0.cutBy lvPitches _ _ _ _ _ (leL_refl _) (hf2 ..) rfl ?_; conv => whnf)
        | (refine CALL0.mk _ _ _ _ _ (leL_refl _) (hf2 ..) rfl ?_; conv => whnf)
        | (refine CALLQ.mk _ _ _ (leL_refl _) (hf2 ..) rfl ?_; conv => whnf)
      repeat first
        | (show DRAW _ _ _ _ _; (first | refine .mk 0 (by decide +kernel) ?_ | refine .mk 1 (by decide +kernel) ?_ | refine .mk 2 (by decide +kernel) ?_ | refine .mk 3 (by decide +kernel) ?_ | refine .mk 4 (by decide +kernel) ?_ | refine .mk 5 (by decide +kernel) ?_ | refine .mk 6 (by decide +kernel) ?_ | refine .mk 7 (by decide +kernel) ?_ | refine .mk 8 (by decide +kernel) ?_ | refine .mk 9 (by decide +kernel) ?_ | refine .mk 10 (by decide +kernel) ?_ | refine .mk 11 (by decide +kernel) ?_ | refine .mk 12 (by decide +kernel) ?_ | refine .mk 13 (by decide +kernel) ?_ | refine .mk 14 (by decide +kernel) ?_ | refine .mk 15 (by decide +kernel) ?_ | refine .mk 16 (by decide +kernel) ?_ | refine .mk 17 (by decide +kernel) ?_ | refine .mk 18 (by decide +kernel) ?_ | refine .mk 19 (by decide +kernel) ?_ | refine .mk 20 (by decide +kernel) ?_ | refine .mk 21 (by decide +kernel) ?_ | refine .mk 22 (by decide +kernel) ?_ | refine .mk 23 (by decide +kernel) ?_ | refine .mk 24 (by decide +kernel) ?_ | refine .mk 25 (by decide +kernel) ?_ | refine .mk 26 (by decide +kernel) ?_ | refine .mk 27 (by decide +kernel) ?_ | refine .mk 28 (by decide +kernel) ?_ | refine .mk 29 (by decide +kernel) ?_ | refine .mk 30 (by decide +kernel) ?_ | refine .mk 31 (by decide +kernel) ?_ | refine .mk 32 (by decide +kernel) ?_ | refine .mk 33 (by decide +kernel) ?_ | refine .mk 34 (by decide +kernel) ?_ | refine .mk 35 (by decide +kernel) ?_ | refine .mk 36 (by decide +kernel) ?_ | refine .mk 37 (by decide +kernel) ?_ | refine .mk 38 (by decide +kernel) ?_ | refine .mk 39 (by decide +kernel) ?_ | refine .mk 40 (by decide +kernel) ?_ | refine .mk 41 (by decide +kernel) ?_); (conv => whnf))
        | (refine HOLD.mk (by first | exact trivial | exact ⟨⟨rfl, rfl⟩, trivial⟩ | exact ⟨⟨rfl, rfl⟩, ⟨rfl, rfl⟩, trivial⟩) ?_; (conv => whnf))
        | (refine CALL0.cutBy lvPitches _ _ _ _ _ (leL_refl _) (hRB ..) rfl ?_; conv => whnf)
        | (refine CALL0.mk _ _ _ _ _ (leL_refl _) (hRB ..) rfl ?_; conv => whnf)
        | (refine CALLQ.mk _ _ _ (leL_refl _) (hRB ..) rfl ?_; conv => whnf)
      split
      · rename_i h
        exact Bool.noConfusion ((qW2).symm.trans h)
      rename_i hN
      clear hN
      conv => whnf
      repeat first
        | (show DRAW _ _ _ _ _; (first | refine .mk 0 (by decide +kernel) ?_ | refine .mk 1 (by decide +kernel) ?_ | refine .mk 2 (by decide +kernel) ?_ | refine .mk 3 (by decide +kernel) ?_ | refine .mk 4 (by decide +kernel) ?_ | refine .mk 5 (by decide +kernel) ?_ | refine .mk 6 (by decide +kernel) ?_ | refine .mk 7 (by decide +kernel) ?_ | refine .mk 8 (by decide +kernel) ?_ | refine .mk 9 (by decide +kernel) ?_ | refine .mk 10 (by decide +kernel) ?_ | refine .mk 11 (by decide +kernel) ?_ | refine .mk 12 (by decide +kernel) ?_ | refine .mk 13 (by decide +kernel) ?_ | refine .mk 14 (by decide +kernel) ?_ | refine .mk 15 (by decide +kernel) ?_ | refine .mk 16 (by decide +kernel) ?_ | refine .mk 17 (by decide +kernel) ?_ | refine .mk 18 (by decide +kernel) ?_ | refine .mk 19 (by decide +kernel) ?_ | refine .mk 20 (by decide +kernel) ?_ | refine .mk 21 (by decide +kernel) ?_ | refine .mk 22 (by decide +kernel) ?_ | refine .mk 23 (by decide +kernel) ?_ | refine .mk 24 (by decide +kernel) ?_ | refine .mk 25 (by decide +kernel) ?_ | refine .mk 26 (by decide +kernel) ?_ | refine .mk 27 (by decide +kernel) ?_ | refine .mk 28 (by decide +kernel) ?_ | refine .mk 29 (by decide +kernel) ?_ | refine .mk 30 (by decide +kernel) ?_ | refine .mk 31 (by decide +kernel) ?_ | refine .mk 32 (by decide +kernel) ?_ | refine .mk 33 (by decide +kernel) ?_ | refine .mk 34 (by decide +kernel) ?_ | refine .mk 35 (by decide +kernel) ?_ | refine .mk 36 (by decide +kernel) ?_ | refine .mk 37 (by decide +kernel) ?_ | refine .mk 38 (by decide +kernel) ?_ | refine .mk 39 (by decide +kernel) ?_ | refine .mk 40 (by decide +kernel) ?_ | refine .mk 41 (by decide +kernel) ?_); (conv => whnf))
        | (refine HOLD.mk (by first | exact trivial | exact ⟨⟨rfl, rfl⟩, trivial⟩ | exact ⟨⟨rfl, rfl⟩, ⟨rfl, rfl⟩, trivial⟩) ?_; (conv => whnf))
        | (refine CALL0.cutBy lvPitches _ _ _ _ _ (leL_refl _) (hn1 ..) rfl ?_; conv => whnf)
        | (refine CALL0.mk _ _ _ _ _ (leL_refl _) (hn1 ..) rfl ?_; conv => whnf)
        | (refine CALLQ.mk _ _ _ (leL_refl _) (hn1 ..) rfl ?_; conv => whnf)
        | (refine CALL0.cutBy lvPitches _ _ _ _ _ (leL_refl _) (hn2 ..) rfl ?_; conv => whnf)
        | (refine CALL0.mk _ _ _ _ _ (leL_refl _) (hn2 ..) rfl ?_; conv => whnf)
        | (refine CALLQ.mk _ _ _ (leL_refl _) (hn2 ..) rfl ?_; conv => whnf)
        | (refine CALL0.cutBy lvPitches _ _ _ _ _ (leL_refl _) (hsp ..) rfl ?_; conv => whnf)
        | (refine CALL0.mk _ _ _ _ _ (leL_refl _) (hsp ..) rfl ?_; conv => whnf)
        | (refine CALLQ.mk _ _ _ (leL_refl _) (hsp ..) rfl ?_; conv => whnf)
      repeat first
        | exact ⟨rfl, rfl⟩
        | (split; rotate_left; (rename_i hz; exact absurd hz (by simp [zW])); (conv => whnf))
        | exact ⟨by simp [zW], rfl⟩
    rw [zW] at hL hCR hf2
    simp only [bne_self_eq_false, cond_false] at hL
    cases hlim : limTo g m N x with
    | none =>
      rw [hlim] at hL hRL
      simp only [limO] at hRL
      simp only at hL
      have hn2 := fun up => c_number (gl := gl) up 0 7 7 0 rfl (fun _ => rfl) (fun h => absurd h (by decide))
      refine mk h_nacellelaw03_RotorPitches rfl rfl ?_
      conv => whnf
      repeat first
        | (show DRAW _ _ _ _ _; (first | refine .mk 0 (by decide +kernel) ?_ | refine .mk 1 (by decide +kernel) ?_ | refine .mk 2 (by decide +kernel) ?_ | refine .mk 3 (by decide +kernel) ?_ | refine .mk 4 (by decide +kernel) ?_ | refine .mk 5 (by decide +kernel) ?_ | refine .mk 6 (by decide +kernel) ?_ | refine .mk 7 (by decide +kernel) ?_ | refine .mk 8 (by decide +kernel) ?_ | refine .mk 9 (by decide +kernel) ?_ | refine .mk 10 (by decide +kernel) ?_ | refine .mk 11 (by decide +kernel) ?_ | refine .mk 12 (by decide +kernel) ?_ | refine .mk 13 (by decide +kernel) ?_ | refine .mk 14 (by decide +kernel) ?_ | refine .mk 15 (by decide +kernel) ?_ | refine .mk 16 (by decide +kernel) ?_ | refine .mk 17 (by decide +kernel) ?_ | refine .mk 18 (by decide +kernel) ?_ | refine .mk 19 (by decide +kernel) ?_ | refine .mk 20 (by decide +kernel) ?_ | refine .mk 21 (by decide +kernel) ?_ | refine .mk 22 (by decide +kernel) ?_ | refine .mk 23 (by decide +kernel) ?_ | refine .mk 24 (by decide +kernel) ?_ | refine .mk 25 (by decide +kernel) ?_ | refine .mk 26 (by decide +kernel) ?_ | refine .mk 27 (by decide +kernel) ?_ | refine .mk 28 (by decide +kernel) ?_ | refine .mk 29 (by decide +kernel) ?_ | refine .mk 30 (by decide +kernel) ?_ | refine .mk 31 (by decide +kernel) ?_ | refine .mk 32 (by decide +kernel) ?_ | refine .mk 33 (by decide +kernel) ?_ | refine .mk 34 (by decide +kernel) ?_ | refine .mk 35 (by decide +kernel) ?_ | refine .mk 36 (by decide +kernel) ?_ | refine .mk 37 (by decide +kernel) ?_ | refine .mk 38 (by decide +kernel) ?_ | refine .mk 39 (by decide +kernel) ?_ | refine .mk 40 (by decide +kernel) ?_ | refine .mk 41 (by decide +kernel) ?_); (conv => whnf))
        | (refine HOLD.mk (by first | exact trivial | exact ⟨⟨rfl, rfl⟩, trivial⟩ | exact ⟨⟨rfl, rfl⟩, ⟨rfl, rfl⟩, trivial⟩) ?_; (conv => whnf))
        | (refine CALL0.cutBy lvPitches _ _ _ _ _ (leL_refl _) (hA ..) rfl ?_; conv => whnf)
        | (refine CALL0.mk _ _ _ _ _ (leL_refl _) (hA ..) rfl ?_; conv => whnf)
        | (refine CALLQ.mk _ _ _ (leL_refl _) (hA ..) rfl ?_; conv => whnf)
        | (refine CALL0.cutBy lvPitches _ _ _ _ _ (leL_refl _) (hS ..) rfl ?_; conv => whnf)
        | (refine CALL0.mk _ _ _ _ _ (leL_refl _) (hS ..) rfl ?_; conv => whnf)
        | (refine CALLQ.mk _ _ _ (leL_refl _) (hS ..) rfl ?_; conv => whnf)
      split
      · rename_i h
        exact Bool.noConfusion ((q1).symm.trans h)
      rename_i hN
      clear hN
      conv => whnf
      repeat first
        | (show DRAW _ _ _ _ _; (first | refine .mk 0 (by decide +kernel) ?_ | refine .mk 1 (by decide +kernel) ?_ | refine .mk 2 (by decide +kernel) ?_ | refine .mk 3 (by decide +kernel) ?_ | refine .mk 4 (by decide +kernel) ?_ | refine .mk 5 (by decide +kernel) ?_ | refine .mk 6 (by decide +kernel) ?_ | refine .mk 7 (by decide +kernel) ?_ | refine .mk 8 (by decide +kernel) ?_ | refine .mk 9 (by decide +kernel) ?_ | refine .mk 10 (by decide +kernel) ?_ | refine .mk 11 (by decide +kernel) ?_ | refine .mk 12 (by decide +kernel) ?_ | refine .mk 13 (by decide +kernel) ?_ | refine .mk 14 (by decide +kernel) ?_ | refine .mk 15 (by decide +kernel) ?_ | refine .mk 16 (by decide +kernel) ?_ | refine .mk 17 (by decide +kernel) ?_ | refine .mk 18 (by decide +kernel) ?_ | refine .mk 19 (by decide +kernel) ?_ | refine .mk 20 (by decide +kernel) ?_ | refine .mk 21 (by decide +kernel) ?_ | refine .mk 22 (by decide +kernel) ?_ | refine .mk 23 (by decide +kernel) ?_ | refine .mk 24 (by decide +kernel) ?_ | refine .mk 25 (by decide +kernel) ?_ | refine .mk 26 (by decide +kernel) ?_ | refine .mk 27 (by decide +kernel) ?_ | refine .mk 28 (by decide +kernel) ?_ | refine .mk 29 (by decide +kernel) ?_ | refine .mk 30 (by decide +kernel) ?_ | refine .mk 31 (by decide +kernel) ?_ | refine .mk 32 (by decide +kernel) ?_ | refine .mk 33 (by decide +kernel) ?_ | refine .mk 34 (by decide +kernel) ?_ | refine .mk 35 (by decide +kernel) ?_ | refine .mk 36 (by decide +kernel) ?_ | refine .mk 37 (by decide +kernel) ?_ | refine .mk 38 (by decide +kernel) ?_ | refine .mk 39 (by decide +kernel) ?_ | refine .mk 40 (by decide +kernel) ?_ | refine .mk 41 (by decide +kernel) ?_); (conv => whnf))
        | (refine HOLD.mk (by first | exact trivial | exact ⟨⟨rfl, rfl⟩, trivial⟩ | exact ⟨⟨rfl, rfl⟩, ⟨rfl, rfl⟩, trivial⟩) ?_; (conv => whnf))
        | (refine CALL0.cutBy lvPitches _ _ _ _ _ (leL_refl _) (hCP ..) rfl ?_; conv => whnf)
        | (refine CALL0.mk _ _ _ _ _ (leL_refl _) (hCP ..) rfl ?_; conv => whnf)
        | (refine CALLQ.mk _ _ _ (leL_refl _) (hCP ..) rfl ?_; conv => whnf)
      split
      · rename_i h
        exact Bool.noConfusion ((q4).symm.trans h)
      rename_i hN
      clear hN
      conv => whnf
      repeat first
        | (show DRAW _ _ _ _ _; (first | refine .mk 0 (by decide +kernel) ?_ | refine .mk 1 (by decide +kernel) ?_ | refine .mk 2 (by decide +kernel) ?_ | refine .mk 3 (by decide +kernel) ?_ | refine .mk 4 (by decide +kernel) ?_ | refine .mk 5 (by decide +kernel) ?_ | refine .mk 6 (by decide +kernel) ?_ | refine .mk 7 (by decide +kernel) ?_ | refine .mk 8 (by decide +kernel) ?_ | refine .mk 9 (by decide +kernel) ?_ | refine .mk 10 (by decide +kernel) ?_ | refine .mk 11 (by decide +kernel) ?_ | refine .mk 12 (by decide +kernel) ?_ | refine .mk 13 (by decide +kernel) ?_ | refine .mk 14 (by decide +kernel) ?_ | refine .mk 15 (by decide +kernel) ?_ | refine .mk 16 (by decide +kernel) ?_ | refine .mk 17 (by decide +kernel) ?_ | refine .mk 18 (by decide +kernel) ?_ | refine .mk 19 (by decide +kernel) ?_ | refine .mk 20 (by decide +kernel) ?_ | refine .mk 21 (by decide +kernel) ?_ | refine .mk 22 (by decide +kernel) ?_ | refine .mk 23 (by decide +kernel) ?_ | refine .mk 24 (by decide +kernel) ?_ | refine .mk 25 (by decide +kernel) ?_ | refine .mk 26 (by decide +kernel) ?_ | refine .mk 27 (by decide +kernel) ?_ | refine .mk 28 (by decide +kernel) ?_ | refine .mk 29 (by decide +kernel) ?_ | refine .mk 30 (by decide +kernel) ?_ | refine .mk 31 (by decide +kernel) ?_ | refine .mk 32 (by decide +kernel) ?_ | refine .mk 33 (by decide +kernel) ?_ | refine .mk 34 (by decide +kernel) ?_ | refine .mk 35 (by decide +kernel) ?_ | refine .mk 36 (by decide +kernel) ?_ | refine .mk 37 (by decide +kernel) ?_ | refine .mk 38 (by decide +kernel) ?_ | refine .mk 39 (by decide +kernel) ?_ | refine .mk 40 (by decide +kernel) ?_ | refine .mk 41 (by decide +kernel) ?_); (conv => whnf))
        | (refine HOLD.mk (by first | exact trivial | exact ⟨⟨rfl, rfl⟩, trivial⟩ | exact ⟨⟨rfl, rfl⟩, ⟨rfl, rfl⟩, trivial⟩) ?_; (conv => whnf))
        | (refine CALL0.cutBy lvPitches _ _ _ _ _ (leL_refl _) (hb ..) rfl ?_; conv => whnf)
        | (refine CALL0.mk _ _ _ _ _ (leL_refl _) (hb ..) rfl ?_; conv => whnf)
        | (refine CALLQ.mk _ _ _ (leL_refl _) (hb ..) rfl ?_; conv => whnf)
        | (refine CALL0.cutBy lvPitches _ _ _ _ _ (leL_refl _) (hB ..) rfl ?_; conv => whnf)
        | (refine CALL0.mk _ _ _ _ _ (leL_refl _) (hB ..) rfl ?_; conv => whnf)
        | (refine CALLQ.mk _ _ _ (leL_refl _) (hB ..) rfl ?_; conv => whnf)
        | (refine CALL0.cutBy lvPitches _ _ _ _ _ (leL_refl _) (hL ..) rfl ?_; conv => whnf)
        | (refine CALL0.mk _ _ _ _ _ (leL_refl _) (hL ..) rfl ?_; conv => whnf)
        | (refine CALLQ.mk _ _ _ (leL_refl _) (hL ..) rfl ?_; conv => whnf)
        | (refine CALL0.cutBy lvPitches _ _ _ _ _ (leL_refl _) (hE ..) rfl ?_; conv => whnf)
        | (refine CALL0.mk _ _ _ _ _ (leL_refl _) (hE ..) rfl ?_; conv => whnf)
        | (refine CALLQ.mk _ _ _ (leL_refl _) (hE ..) rfl ?_; conv => whnf)
        | (refine CALL0.cutBy lvPitches _ _ _ _ _ (leL_refl _) (hFl ..) rfl ?_; conv => whnf)
        | (refine CALL0.mk _ _ _ _ _ (leL_refl _) (hFl ..) rfl ?_; conv => whnf)
        | (refine CALLQ.mk _ _ _ (leL_refl _) (hFl ..) rfl ?_; conv => whnf)
        | (refine CALL0.cutBy lvPitches _ _ _ _ _ (leL_refl _) (c_rCheckDepth ..) rfl ?_; conv => whnf)
        | (refine CALL0.mk _ _ _ _ _ (leL_refl _) (c_rCheckDepth ..) rfl ?_; conv => whnf)
        | (refine CALLQ.mk _ _ _ (leL_refl _) (c_rCheckDepth ..) rfl ?_; conv => whnf)
        | (refine CALL0.cutBy lvPitches _ _ _ _ _ (leL_refl _) (hCP ..) rfl ?_; conv => whnf)
        | (refine CALL0.mk _ _ _ _ _ (leL_refl _) (hCP ..) rfl ?_; conv => whnf)
        | (refine CALLQ.mk _ _ _ (leL_refl _) (hCP ..) rfl ?_; conv => whnf)
        | (refine CALL0.cutBy lvPitches _ _ _ _ _ (leL_refl _) (hf4 ..) rfl ?_; conv => whnf)
        | (refine CALL0.mk _ _ _ _ _ (leL_refl _) (hf4 ..) rfl ?_; conv => whnf)
        | (refine CALLQ.mk _ _ _ (leL_refl _) (hf4 ..) rfl ?_; conv => whnf)
        | (refine CALL0.cutBy lvPitches _ _ _ _ _ (leL_refl _) (hCR ..) rfl ?_; conv => whnf)
        | (refine CALL0.mk _ _ _ _ _ (leL_refl _) (hCR ..) rfl ?_; conv => whnf)
        | (refine CALLQ.mk _ _ _ (leL_refl _) (hCR ..) rfl ?_; conv => whnf)
        | (refine CALL0.cutBy lvPitches _ _ _ _ _ (leL_refl _) (hf2 ..) rfl ?_; conv => whnf)
        | (refine CALL0.mk _ _ _ _ _ (leL_refl _) (hf2 ..) rfl ?_; conv => whnf)
        | (refine CALLQ.mk _ _ _ (leL_refl _) (hf2 ..) rfl ?_; conv => whnf)
      repeat first
        | (show DRAW _ _ _ _ _; (first | refine .mk 0 (by decide +kernel) ?_ | refine .mk 1 (by decide +kernel) ?_ | refine .mk 2 (by decide +kernel) ?_ | refine .mk 3 (by decide +kernel) ?_ | refine .mk 4 (by decide +kernel) ?_ | refine .mk 5 (by decide +kernel) ?_ | refine .mk 6 (by decide +kernel) ?_ | refine .mk 7 (by decide +kernel) ?_ | refine .mk 8 (by decide +kernel) ?_ | refine .mk 9 (by decide +kernel) ?_ | refine .mk 10 (by decide +kernel) ?_ | refine .mk 11 (by decide +kernel) ?_ | refine .mk 12 (by decide +kernel) ?_ | refine .mk 13 (by decide +kernel) ?_ | refine .mk 14 (by decide +kernel) ?_ | refine .mk 15 (by decide +kernel) ?_ | refine .mk 16 (by decide +kernel) ?_ | refine .mk 17 (by decide +kernel) ?_ | refine .mk 18 (by decide +kernel) ?_ | refine .mk 19 (by decide +kernel) ?_ | refine .mk 20 (by decide +kernel) ?_ | refine .mk 21 (by decide +kernel) ?_ | refine .mk 22 (by decide +kernel) ?_ | refine .mk 23 (by decide +kernel) ?_ | refine .mk 24 (by decide +kernel) ?_ | refine .mk 25 (by decide +kernel) ?_ | refine .mk 26 (by decide +kernel) ?_ | refine .mk 27 (by decide +kernel) ?_ | refine .mk 28 (by decide +kernel) ?_ | refine .mk 29 (by decide +kernel) ?_ | refine .mk 30 (by decide +kernel) ?_ | refine .mk 31 (by decide +kernel) ?_ | refine .mk 32 (by decide +kernel) ?_ | refine .mk 33 (by decide +kernel) ?_ | refine .mk 34 (by decide +kernel) ?_ | refine .mk 35 (by decide +kernel) ?_ | refine .mk 36 (by decide +kernel) ?_ | refine .mk 37 (by decide +kernel) ?_ | refine .mk 38 (by decide +kernel) ?_ | refine .mk 39 (by decide +kernel) ?_ | refine .mk 40 (by decide +kernel) ?_ | refine .mk 41 (by decide +kernel) ?_); (conv => whnf))
        | (refine HOLD.mk (by first | exact trivial | exact ⟨⟨rfl, rfl⟩, trivial⟩ | exact ⟨⟨rfl, rfl⟩, ⟨rfl, rfl⟩, trivial⟩) ?_; (conv => whnf))
        | (refine CALL0.cutBy lvPitches _ _ _ _ _ (leL_refl _) (hRB ..) rfl ?_; conv => whnf)
        | (refine CALL0.mk _ _ _ _ _ (leL_refl _) (hRB ..) rfl ?_; conv => whnf)
        | (refine CALLQ.mk _ _ _ (leL_refl _) (hRB ..) rfl ?_; conv => whnf)
      repeat first
        | (show DRAW _ _ _ _ _; (first | refine .mk 0 (by decide +kernel) ?_ | refine .mk 1 (by decide +kernel) ?_ | refine .mk 2 (by decide +kernel) ?_ | refine .mk 3 (by decide +kernel) ?_ | refine .mk 4 (by decide +kernel) ?_ | refine .mk 5 (by decide +kernel) ?_ | refine .mk 6 (by decide +kernel) ?_ | refine .mk 7 (by decide +kernel) ?_ | refine .mk 8 (by decide +kernel) ?_ | refine .mk 9 (by decide +kernel) ?_ | refine .mk 10 (by decide +kernel) ?_ | refine .mk 11 (by decide +kernel) ?_ | refine .mk 12 (by decide +kernel) ?_ | refine .mk 13 (by decide +kernel) ?_ | refine .mk 14 (by decide +kernel) ?_ | refine .mk 15 (by decide +kernel) ?_ | refine .mk 16 (by decide +kernel) ?_ | refine .mk 17 (by decide +kernel) ?_ | refine .mk 18 (by decide +kernel) ?_ | refine .mk 19 (by decide +kernel) ?_ | refine .mk 20 (by decide +kernel) ?_ | refine .mk 21 (by decide +kernel) ?_ | refine .mk 22 (by decide +kernel) ?_ | refine .mk 23 (by decide +kernel) ?_ | refine .mk 24 (by decide +kernel) ?_ | refine .mk 25 (by decide +kernel) ?_ | refine .mk 26 (by decide +kernel) ?_ | refine .mk 27 (by decide +kernel) ?_ | refine .mk 28 (by decide +kernel) ?_ | refine .mk 29 (by decide +kernel) ?_ | refine .mk 30 (by decide +kernel) ?_ | refine .mk 31 (by decide +kernel) ?_ | refine .mk 32 (by decide +kernel) ?_ | refine .mk 33 (by decide +kernel) ?_ | refine .mk 34 (by decide +kernel) ?_ | refine .mk 35 (by decide +kernel) ?_ | refine .mk 36 (by decide +kernel) ?_ | refine .mk 37 (by decide +kernel) ?_ | refine .mk 38 (by decide +kernel) ?_ | refine .mk 39 (by decide +kernel) ?_ | refine .mk 40 (by decide +kernel) ?_ | refine .mk 41 (by decide +kernel) ?_); (conv => whnf))
        | (refine HOLD.mk (by first | exact trivial | exact ⟨⟨rfl, rfl⟩, trivial⟩ | exact ⟨⟨rfl, rfl⟩, ⟨rfl, rfl⟩, trivial⟩) ?_; (conv => whnf))
        | (refine CALL0.cutBy lvPitches _ _ _ _ _ (leL_refl _) (hRL ..) rfl ?_; conv => whnf)
        | (refine CALL0.mk _ _ _ _ _ (leL_refl _) (hRL ..) rfl ?_; conv => whnf)
        | (refine CALLQ.mk _ _ _ (leL_refl _) (hRL ..) rfl ?_; conv => whnf)
        | (refine CALL0.cutBy lvPitches _ _ _ _ _ (leL_refl _) (hn1 ..) rfl ?_; conv => whnf)
        | (refine CALL0.mk _ _ _ _ _ (leL_refl _) (hn1 ..) rfl ?_; conv => whnf)
        | (refine CALLQ.mk _ _ _ (leL_refl _) (hn1 ..) rfl ?_; conv => whnf)
        | (refine CALL0.cutBy lvPitches _ _ _ _ _ (leL_refl _) (hn2 ..) rfl ?_; conv => whnf)
        | (refine CALL0.mk _ _ _ _ _ (leL_refl _) (hn2 ..) rfl ?_; conv => whnf)
        | (refine CALLQ.mk _ _ _ (leL_refl _) (hn2 ..) rfl ?_; conv => whnf)
        | (refine CALL0.cutBy lvPitches _ _ _ _ _ (leL_refl _) (hsp ..) rfl ?_; conv => whnf)
        | (refine CALL0.mk _ _ _ _ _ (leL_refl _) (hsp ..) rfl ?_; conv => whnf)
        | (refine CALLQ.mk _ _ _ (leL_refl _) (hsp ..) rfl ?_; conv => whnf)
      repeat first
        | exact ⟨rfl, rfl⟩
        | (split; rotate_left; (rename_i hz; exact absurd hz (by simp)); (conv => whnf))
        | exact ⟨by simp, rfl⟩
    | some L =>
      rw [hlim] at hL hRL
      simp only [limO] at hRL
      simp only at hL
      have hn2 := fun up => c_number (gl := gl) up L 0 0 L rfl (fun h => absurd rfl h) (fun _ => rfl)
      refine mk h_nacellelaw03_RotorPitches rfl rfl ?_
      conv => whnf
      repeat first
        | (show DRAW _ _ _ _ _; (first | refine .mk 0 (by decide +kernel) ?_ | refine .mk 1 (by decide +kernel) ?_ | refine .mk 2 (by decide +kernel) ?_ | refine .mk 3 (by decide +kernel) ?_ | refine .mk 4 (by decide +kernel) ?_ | refine .mk 5 (by decide +kernel) ?_ | refine .mk 6 (by decide +kernel) ?_ | refine .mk 7 (by decide +kernel) ?_ | refine .mk 8 (by decide +kernel) ?_ | refine .mk 9 (by decide +kernel) ?_ | refine .mk 10 (by decide +kernel) ?_ | refine .mk 11 (by decide +kernel) ?_ | refine .mk 12 (by decide +kernel) ?_ | refine .mk 13 (by decide +kernel) ?_ | refine .mk 14 (by decide +kernel) ?_ | refine .mk 15 (by decide +kernel) ?_ | refine .mk 16 (by decide +kernel) ?_ | refine .mk 17 (by decide +kernel) ?_ | refine .mk 18 (by decide +kernel) ?_ | refine .mk 19 (by decide +kernel) ?_ | refine .mk 20 (by decide +kernel) ?_ | refine .mk 21 (by decide +kernel) ?_ | refine .mk 22 (by decide +kernel) ?_ | refine .mk 23 (by decide +kernel) ?_ | refine .mk 24 (by decide +kernel) ?_ | refine .mk 25 (by decide +kernel) ?_ | refine .mk 26 (by decide +kernel) ?_ | refine .mk 27 (by decide +kernel) ?_ | refine .mk 28 (by decide +kernel) ?_ | refine .mk 29 (by decide +kernel) ?_ | refine .mk 30 (by decide +kernel) ?_ | refine .mk 31 (by decide +kernel) ?_ | refine .mk 32 (by decide +kernel) ?_ | refine .mk 33 (by decide +kernel) ?_ | refine .mk 34 (by decide +kernel) ?_ | refine .mk 35 (by decide +kernel) ?_ | refine .mk 36 (by decide +kernel) ?_ | refine .mk 37 (by decide +kernel) ?_ | refine .mk 38 (by decide +kernel) ?_ | refine .mk 39 (by decide +kernel) ?_ | refine .mk 40 (by decide +kernel) ?_ | refine .mk 41 (by decide +kernel) ?_); (conv => whnf))
        | (refine HOLD.mk (by first | exact trivial | exact ⟨⟨rfl, rfl⟩, trivial⟩ | exact ⟨⟨rfl, rfl⟩, ⟨rfl, rfl⟩, trivial⟩) ?_; (conv => whnf))
        | (refine CALL0.cutBy lvPitches _ _ _ _ _ (leL_refl _) (hA ..) rfl ?_; conv => whnf)
        | (refine CALL0.mk _ _ _ _ _ (leL_refl _) (hA ..) rfl ?_; conv => whnf)
        | (refine CALLQ.mk _ _ _ (leL_refl _) (hA ..) rfl ?_; conv => whnf)
        | (refine CALL0.cutBy lvPitches _ _ _ _ _ (leL_refl _) (hS ..) rfl ?_; conv => whnf)
        | (refine CALL0.mk _ _ _ _ _ (leL_refl _) (hS ..) rfl ?_; conv => whnf)
        | (refine CALLQ.mk _ _ _ (leL_refl _) (hS ..) rfl ?_; conv => whnf)
      split
      · rename_i h
        exact Bool.noConfusion ((q1).symm.trans h)
      rename_i hN
      clear hN
      conv => whnf
      repeat first
        | (show DRAW _ _ _ _ _; (first | refine .mk 0 (by decide +kernel) ?_ | refine .mk 1 (by decide +kernel) ?_ | refine .mk 2 (by decide +kernel) ?_ | refine .mk 3 (by decide +kernel) ?_ | refine .mk 4 (by decide +kernel) ?_ | refine .mk 5 (by decide +kernel) ?_ | refine .mk 6 (by decide +kernel) ?_ | refine .mk 7 (by decide +kernel) ?_ | refine .mk 8 (by decide +kernel) ?_ | refine .mk 9 (by decide +kernel) ?_ | refine .mk 10 (by decide +kernel) ?_ | refine .mk 11 (by decide +kernel) ?_ | refine .mk 12 (by decide +kernel) ?_ | refine .mk 13 (by decide +kernel) ?_ | refine .mk 14 (by decide +kernel) ?_ | refine .mk 15 (by decide +kernel) ?_ | refine .mk 16 (by decide +kernel) ?_ | refine .mk 17 (by decide +kernel) ?_ | refine .mk 18 (by decide +kernel) ?_ | refine .mk 19 (by decide +kernel) ?_ | refine .mk 20 (by decide +kernel) ?_ | refine .mk 21 (by decide +kernel) ?_ | refine .mk 22 (by decide +kernel) ?_ | refine .mk 23 (by decide +kernel) ?_ | refine .mk 24 (by decide +kernel) ?_ | refine .mk 25 (by decide +kernel) ?_ | refine .mk 26 (by decide +kernel) ?_ | refine .mk 27 (by decide +kernel) ?_ | refine .mk 28 (by decide +kernel) ?_ | refine .mk 29 (by decide +kernel) ?_ | refine .mk 30 (by decide +kernel) ?_ | refine .mk 31 (by decide +kernel) ?_ | refine .mk 32 (by decide +kernel) ?_ | refine .mk 33 (by decide +kernel) ?_ | refine .mk 34 (by decide +kernel) ?_ | refine .mk 35 (by decide +kernel) ?_ | refine .mk 36 (by decide +kernel) ?_ | refine .mk 37 (by decide +kernel) ?_ | refine .mk 38 (by decide +kernel) ?_ | refine .mk 39 (by decide +kernel) ?_ | refine .mk 40 (by decide +kernel) ?_ | refine .mk 41 (by decide +kernel) ?_); (conv => whnf))
        | (refine HOLD.mk (by first | exact trivial | exact ⟨⟨rfl, rfl⟩, trivial⟩ | exact ⟨⟨rfl, rfl⟩, ⟨rfl, rfl⟩, trivial⟩) ?_; (conv => whnf))
        | (refine CALL0.cutBy lvPitches _ _ _ _ _ (leL_refl _) (hCP ..) rfl ?_; conv => whnf)
        | (refine CALL0.mk _ _ _ _ _ (leL_refl _) (hCP ..) rfl ?_; conv => whnf)
        | (refine CALLQ.mk _ _ _ (leL_refl _) (hCP ..) rfl ?_; conv => whnf)
      split
      · rename_i h
        exact Bool.noConfusion ((q4).symm.trans h)
      rename_i hN
      clear hN
      conv => whnf
      repeat first
        | (show DRAW _ _ _ _ _; (first | refine .mk 0 (by decide +kernel) ?_ | refine .mk 1 (by decide +kernel) ?_ | refine .mk 2 (by decide +kernel) ?_ | refine .mk 3 (by decide +kernel) ?_ | refine .mk 4 (by decide +kernel) ?_ | refine .mk 5 (by decide +kernel) ?_ | refine .mk 6 (by decide +kernel) ?_ | refine .mk 7 (by decide +kernel) ?_ | refine .mk 8 (by decide +kernel) ?_ | refine .mk 9 (by decide +kernel) ?_ | refine .mk 10 (by decide +kernel) ?_ | refine .mk 11 (by decide +kernel) ?_ | refine .mk 12 (by decide +kernel) ?_ | refine .mk 13 (by decide +kernel) ?_ | refine .mk 14 (by decide +kernel) ?_ | refine .mk 15 (by decide +kernel) ?_ | refine .mk 16 (by decide +kernel) ?_ | refine .mk 17 (by decide +kernel) ?_ | refine .mk 18 (by decide +kernel) ?_ | refine .mk 19 (by decide +kernel) ?_ | refine .mk 20 (by decide +kernel) ?_ | refine .mk 21 (by decide +kernel) ?_ | refine .mk 22 (by decide +kernel) ?_ | refine .mk 23 (by decide +kernel) ?_ | refine .mk 24 (by decide +kernel) ?_ | refine .mk 25 (by decide +kernel) ?_ | refine .mk 26 (by decide +kernel) ?_ | refine .mk 27 (by decide +kernel) ?_ | refine .mk 28 (by decide +kernel) ?_ | refine .mk 29 (by decide +kernel) ?_ | refine .mk 30 (by decide +kernel) ?_ | refine .mk 31 (by decide +kernel) ?_ | refine .mk 32 (by decide +kernel) ?_ | refine .mk 33 (by decide +kernel) ?_ | refine .mk 34 (by decide +kernel) ?_ | refine .mk 35 (by decide +kernel) ?_ | refine .mk 36 (by decide +kernel) ?_ | refine .mk 37 (by decide +kernel) ?_ | refine .mk 38 (by decide +kernel) ?_ | refine .mk 39 (by decide +kernel) ?_ | refine .mk 40 (by decide +kernel) ?_ | refine .mk 41 (by decide +kernel) ?_); (conv => whnf))
        | (refine HOLD.mk (by first | exact trivial | exact ⟨⟨rfl, rfl⟩, trivial⟩ | exact ⟨⟨rfl, rfl⟩, ⟨rfl, rfl⟩, trivial⟩) ?_; (conv => whnf))
        | (refine CALL0.cutBy lvPitches _ _ _ _ _ (leL_refl _) (hb ..) rfl ?_; conv => whnf)
        | (refine CALL0.mk _ _ _ _ _ (leL_refl _) (hb ..) rfl ?_; conv => whnf)
        | (refine CALLQ.mk _ _ _ (leL_refl _) (hb ..) rfl ?_; conv => whnf)
        | (refine CALL0.cutBy lvPitches _ _ _ _ _ (leL_refl _) (hB ..) rfl ?_; conv => whnf)
        | (refine CALL0.mk _ _ _ _ _ (leL_refl _) (hB ..) rfl ?_; conv => whnf)
        | (refine CALLQ.mk _ _ _ (leL_refl _) (hB ..) rfl ?_; conv => whnf)
        | (refine CALL0.cutBy lvPitches _ _ _ _ _ (leL_refl _) (hL ..) rfl ?_; conv => whnf)
        | (refine CALL0.mk _ _ _ _ _ (leL_refl _) (hL ..) rfl ?_; conv => whnf)
        | (refine CALLQ.mk _ _ _ (leL_refl _) (hL ..) rfl ?_; conv => whnf)
        | (refine CALL0.cutBy lvPitches _ _ _ _ _ (leL_refl _) (hE ..) rfl ?_; conv => whnf)
        | (refine CALL0.mk _ _ _ _ _ (leL_refl _) (hE ..) rfl ?_; conv => whnf)
        | (refine CALLQ.mk _ _ _ (leL_refl _) (hE ..) rfl ?_; conv => whnf)
        | (refine CALL0.cutBy lvPitches _ _ _ _ _ (leL_refl _) (hFl ..) rfl ?_; conv => whnf)
        | (refine CALL0.mk _ _ _ _ _ (leL_refl _) (hFl ..) rfl ?_; conv => whnf)
        | (refine CALLQ.mk _ _ _ (leL_refl _) (hFl ..) rfl ?_; conv => whnf)
        | (refine CALL0.cutBy lvPitches _ _ _ _ _ (leL_refl _) (c_rCheckDepth ..) rfl ?_; conv => whnf)
        | (refine CALL0.mk _ _ _ _ _ (leL_refl _) (c_rCheckDepth ..) rfl ?_; conv => whnf)
        | (refine CALLQ.mk _ _ _ (leL_refl _) (c_rCheckDepth ..) rfl ?_; conv => whnf)
        | (refine CALL0.cutBy lvPitches _ _ _ _ _ (leL_refl _) (hCP ..) rfl ?_; conv => whnf)
        | (refine CALL0.mk _ _ _ _ _ (leL_refl _) (hCP ..) rfl ?_; conv => whnf)
        | (refine CALLQ.mk _ _ _ (leL_refl _) (hCP ..) rfl ?_; conv => whnf)
        | (refine CALL0.cutBy lvPitches _ _ _ _ _ (leL_refl _) (hf4 ..) rfl ?_; conv => whnf)
        | (refine CALL0.mk _ _ _ _ _ (leL_refl _) (hf4 ..) rfl ?_; conv => whnf)
        | (refine CALLQ.mk _ _ _ (leL_refl _) (hf4 ..) rfl ?_; conv => whnf)
        | (refine CALL0.cutBy lvPitches _ _ _ _ _ (leL_refl _) (hCR ..) rfl ?_; conv => whnf)
        | (refine CALL0.mk _ _ _ _ _ (leL_refl _) (hCR ..) rfl ?_; conv => whnf)
        | (refine CALLQ.mk _ _ _ (leL_refl _) (hCR ..) rfl ?_; conv => whnf)
        | (refine CALL0.cutBy lvPitches _ _ _ _ _ (leL_refl _) (hf2 ..) rfl ?_; conv => whnf)
        | (refine CALL0.mk _ _ _ _ _ (leL_refl _) (hf2 ..) rfl ?_; conv => whnf)
        | (refine CALLQ.mk _ _ _ (leL_refl _) (hf2 ..) rfl ?_; conv => whnf)
      repeat first
        | (show DRAW _ _ _ _ _; (first | refine .mk 0 (by decide +kernel) ?_ | refine .mk 1 (by decide +kernel) ?_ | refine .mk 2 (by decide +kernel) ?_ | refine .mk 3 (by decide +kernel) ?_ | refine .mk 4 (by decide +kernel) ?_ | refine .mk 5 (by decide +kernel) ?_ | refine .mk 6 (by decide +kernel) ?_ | refine .mk 7 (by decide +kernel) ?_ | refine .mk 8 (by decide +kernel) ?_ | refine .mk 9 (by decide +kernel) ?_ | refine .mk 10 (by decide +kernel) ?_ | refine .mk 11 (by decide +kernel) ?_ | refine .mk 12 (by decide +kernel) ?_ | refine .mk 13 (by decide +kernel) ?_ | refine .mk 14 (by decide +kernel) ?_ | refine .mk 15 (by decide +kernel) ?_ | refine .mk 16 (by decide +kernel) ?_ | refine .mk 17 (by decide +kernel) ?_ | refine .mk 18 (by decide +kernel) ?_ | refine .mk 19 (by decide +kernel) ?_ | refine .mk 20 (by decide +kernel) ?_ | refine .mk 21 (by decide +kernel) ?_ | refine .mk 22 (by decide +kernel) ?_ | refine .mk 23 (by decide +kernel) ?_ | refine .mk 24 (by decide +kernel) ?_ | refine .mk 25 (by decide +kernel) ?_ | refine .mk 26 (by decide +kernel) ?_ | refine .mk 27 (by decide +kernel) ?_ | refine .mk 28 (by decide +kernel) ?_ | refine .mk 29 (by decide +kernel) ?_ | refine .mk 30 (by decide +kernel) ?_ | refine .mk 31 (by decide +kernel) ?_ | refine .mk 32 (by decide +kernel) ?_ | refine .mk 33 (by decide +kernel) ?_ | refine .mk 34 (by decide +kernel) ?_ | refine .mk 35 (by decide +kernel) ?_ | refine .mk 36 (by decide +kernel) ?_ | refine .mk 37 (by decide +kernel) ?_ | refine .mk 38 (by decide +kernel) ?_ | refine .mk 39 (by decide +kernel) ?_ | refine .mk 40 (by decide +kernel) ?_ | refine .mk 41 (by decide +kernel) ?_); (conv => whnf))
        | (refine HOLD.mk (by first | exact trivial | exact ⟨⟨rfl, rfl⟩, trivial⟩ | exact ⟨⟨rfl, rfl⟩, ⟨rfl, rfl⟩, trivial⟩) ?_; (conv => whnf))
        | (refine CALL0.cutBy lvPitches _ _ _ _ _ (leL_refl _) (hRB ..) rfl ?_; conv => whnf)
        | (refine CALL0.mk _ _ _ _ _ (leL_refl _) (hRB ..) rfl ?_; conv => whnf)
        | (refine CALLQ.mk _ _ _ (leL_refl _) (hRB ..) rfl ?_; conv => whnf)
      repeat first
        | (show DRAW _ _ _ _ _; (first | refine .mk 0 (by decide +kernel) ?_ | refine .mk 1 (by decide +kernel) ?_ | refine .mk 2 (by decide +kernel) ?_ | refine .mk 3 (by decide +kernel) ?_ | refine .mk 4 (by decide +kernel) ?_ | refine .mk 5 (by decide +kernel) ?_ | refine .mk 6 (by decide +kernel) ?_ | refine .mk 7 (by decide +kernel) ?_ | refine .mk 8 (by decide +kernel) ?_ | refine .mk 9 (by decide +kernel) ?_ | refine .mk 10 (by decide +kernel) ?_ | refine .mk 11 (by decide +kernel) ?_ | refine .mk 12 (by decide +kernel) ?_ | refine .mk 13 (by decide +kernel) ?_ | refine .mk 14 (by decide +kernel) ?_ | refine .mk 15 (by decide +kernel) ?_ | refine .mk 16 (by decide +kernel) ?_ | refine .mk 17 (by decide +kernel) ?_ | refine .mk 18 (by decide +kernel) ?_ | refine .mk 19 (by decide +kernel) ?_ | refine .mk 20 (by decide +kernel) ?_ | refine .mk 21 (by decide +kernel) ?_ | refine .mk 22 (by decide +kernel) ?_ | refine .mk 23 (by decide +kernel) ?_ | refine .mk 24 (by decide +kernel) ?_ | refine .mk 25 (by decide +kernel) ?_ | refine .mk 26 (by decide +kernel) ?_ | refine .mk 27 (by decide +kernel) ?_ | refine .mk 28 (by decide +kernel) ?_ | refine .mk 29 (by decide +kernel) ?_ | refine .mk 30 (by decide +kernel) ?_ | refine .mk 31 (by decide +kernel) ?_ | refine .mk 32 (by decide +kernel) ?_ | refine .mk 33 (by decide +kernel) ?_ | refine .mk 34 (by decide +kernel) ?_ | refine .mk 35 (by decide +kernel) ?_ | refine .mk 36 (by decide +kernel) ?_ | refine .mk 37 (by decide +kernel) ?_ | refine .mk 38 (by decide +kernel) ?_ | refine .mk 39 (by decide +kernel) ?_ | refine .mk 40 (by decide +kernel) ?_ | refine .mk 41 (by decide +kernel) ?_); (conv => whnf))
        | (refine HOLD.mk (by first | exact trivial | exact ⟨⟨rfl, rfl⟩, trivial⟩ | exact ⟨⟨rfl, rfl⟩, ⟨rfl, rfl⟩, trivial⟩) ?_; (conv => whnf))
        | (refine CALL0.cutBy lvPitches _ _ _ _ _ (leL_refl _) (hRL ..) rfl ?_; conv => whnf)
        | (refine CALL0.mk _ _ _ _ _ (leL_refl _) (hRL ..) rfl ?_; conv => whnf)
        | (refine CALLQ.mk _ _ _ (leL_refl _) (hRL ..) rfl ?_; conv => whnf)
        | (refine CALL0.cutBy lvPitches _ _ _ _ _ (leL_refl _) (hn1 ..) rfl ?_; conv => whnf)
        | (refine CALL0.mk _ _ _ _ _ (leL_refl _) (hn1 ..) rfl ?_; conv => whnf)
        | (refine CALLQ.mk _ _ _ (leL_refl _) (hn1 ..) rfl ?_; conv => whnf)
        | (refine CALL0.cutBy lvPitches _ _ _ _ _ (leL_refl _) (hn2 ..) rfl ?_; conv => whnf)
        | (refine CALL0.mk _ _ _ _ _ (leL_refl _) (hn2 ..) rfl ?_; conv => whnf)
        | (refine CALLQ.mk _ _ _ (leL_refl _) (hn2 ..) rfl ?_; conv => whnf)
        | (refine CALL0.cutBy lvPitches _ _ _ _ _ (leL_refl _) (hsp ..) rfl ?_; conv => whnf)
        | (refine CALL0.mk _ _ _ _ _ (leL_refl _) (hsp ..) rfl ?_; conv => whnf)
        | (refine CALLQ.mk _ _ _ (leL_refl _) (hsp ..) rfl ?_; conv => whnf)
      repeat first
        | exact ⟨rfl, rfl⟩
        | (split; rotate_left; (rename_i hz; exact absurd hz (by simp)); (conv => whnf))
        | exact ⟨by simp, rfl⟩

theorem c_RotorPitches (up : List Ces) (hr : gl g_rotor_roots = rootsI) (hp : gl g_internal_strconv_uint64pow10 = powI) (b : Bl) (f : Fl) (d x y m : Int) :
    Cs gl n_nacellelaw03_RotorPitches up [b.iv, f.iv, .agg [.int .i64 d, .int .i64 x, .int .i64 y, .int .i64 m]] (.bool true) up := by
  cases hs : lightB b f with
  | false => exact pitches_no up hr hp b f hs d x y m
  | true =>
  cases q1 : decide (d > 6) with
  | true =>
    cases q2 : decide (d ≤ 12) with
    | true => exact pitches_stop1 up hr hp b f hs d x y m q1 q2
    | false =>
      have zE : bestErr b f d x y ≠ 0 := fun h => by
        unfold bestErr at h
        rw [orE_zero] at h
        obtain ⟨_, _, n, rfl, h3⟩ := allErr_ok h.1
        have := of_decide_eq_false q2
        omega
      cases zP : pitchErr x y == 0 with
      | false => exact pitches_bad4 up hr hp b f hs d x y m _ rfl zE q1 q2 zP
      | true =>
        have zP : pitchErr x y = 0 := by simpa using zP
        cases q4 : decide (w64 (y - x) > 11) with
        | true => exact pitches_stop3 up hr hp b f hs d x y m q1 q2 zP q4
        | false => exact pitches_bad3 up hr hp b f hs d x y m _ rfl zE q1 q2 zP q4
  | false =>
    cases zP : pitchErr x y == 0 with
    | false =>
      have zE : bestErr b f d x y ≠ 0 := fun h => by
        unfold bestErr at h
        rw [orE_zero] at h
        rw [h.2] at zP; cases zP
      exact pitches_bad2 up hr hp b f hs d x y m _ rfl zE q1 zP
    | true =>
      have zP : pitchErr x y = 0 := by simpa using zP
      cases q4 : decide (w64 (y - x) > 11) with
      | true => exact pitches_stop2 up hr hp b f hs d x y m q1 zP q4
      | false =>
        by_cases zE : bestErr b f d x y = 0
        · exact pitches_good up hr hp b f hs d x y m zE q1 zP q4
        · exact pitches_bad1 up hr hp b f hs d x y m _ rfl zE q1 zP q4
end Go.Proofs.YtllmejkmogepjaaGreatDoor.Ix

/-
  IxSh2: pairs, loads, whole numbers that fit their shapes.
-/
namespace Go.Proofs.YtllmejkmogepjaaGreatDoor.Ix

abbrev pairShp : Shp := .agg [(1, intS), (1, intS)]
abbrev tripShp : Shp := .agg [(1, intS), (1, intS), (1, intS)]

theorem fit_int {v : IV} (h : FitV intS v) : ∃ n, v = .int .i64 n := by
  obtain ⟨m, h, _⟩ := h
  exact ⟨m, (List.cons.inj h).1⟩

theorem fit_pair {v : IV} (h : FitV pairShp v) : ∃ a b, v = .agg [.int .i64 a, .int .i64 b] := by
  obtain ⟨xs, rfl, h⟩ := h
  have := fit_ints 2 xs h
  exact ⟨intAt xs 0, intAt xs 1, by rw [this]; simp [intAt, List.range, List.range.loop]⟩

theorem fit_trip {v : IV} (h : FitV tripShp v) : ∃ a b c, v = .agg [.int .i64 a, .int .i64 b, .int .i64 c] := by
  obtain ⟨xs, rfl, h⟩ := h
  have := fit_ints 3 xs h
  exact ⟨intAt xs 0, intAt xs 1, intAt xs 2, by rw [this]; simp [intAt, List.range, List.range.loop]⟩

theorem cells2 {ys : List IV} (h : Fit pairShp ys) : ∃ a b, ys = [.int .i64 a, .int .i64 b] := by
  have := fit_ints 2 ys h
  exact ⟨intAt ys 0, intAt ys 1, by rw [this]; simp [intAt, List.range, List.range.loop]⟩
theorem cells3 {ys : List IV} (h : Fit tripShp ys) : ∃ a b c, ys = [.int .i64 a, .int .i64 b, .int .i64 c] := by
  have := fit_ints 3 ys h
  exact ⟨intAt ys 0, intAt ys 1, intAt ys 2, by rw [this]; simp [intAt, List.range, List.range.loop]⟩
theorem cells1 {ys : List IV} (h : Fit intS ys) : ∃ a, ys = [.int .i64 a] := by
  obtain ⟨m, rfl, _⟩ := h
  exact ⟨m, rfl⟩

theorem fit_loads {v : IV} (h : FitV (.agg [(3, .agg [(1, intS), (1, intS), (1, intS)]), (1, intS), (2, .agg [(1, intS), (1, intS)])]) v) :
    ∃ p q r s t u, v = .agg [.int .i64 p, .int .i64 q, .int .i64 r, .int .i64 s, .int .i64 t, .int .i64 u] := by
  obtain ⟨xs, rfl, h⟩ := h
  simp only [FitL] at h
  obtain ⟨y1, z1, rfl, _, h1, y2, z2, rfl, _, h2, y3, z3, rfl, _, h3, rfl⟩ := h
  obtain ⟨p, q, r, rfl⟩ := cells3 h1
  obtain ⟨s, rfl⟩ := cells1 h2
  obtain ⟨t, u, rfl⟩ := cells2 h3
  exact ⟨p, q, r, s, t, u, rfl⟩

theorem fit_spot {v : IV} (h : FitV (.agg [(1, intS), (2, .agg [(1, intS), (1, intS)]), (1, intS), (1, intS)]) v) :
    ∃ p q r s t, v = .agg [.int .i64 p, .int .i64 q, .int .i64 r, .int .i64 s, .int .i64 t] := by
  obtain ⟨xs, rfl, h⟩ := h
  simp only [FitL] at h
  obtain ⟨y1, z1, rfl, _, h1, y2, z2, rfl, _, h2, y3, z3, rfl, _, h3, y4, z4, rfl, _, h4, rfl⟩ := h
  obtain ⟨p, rfl⟩ := cells1 h1
  obtain ⟨q, r, rfl⟩ := cells2 h2
  obtain ⟨s, rfl⟩ := cells1 h3
  obtain ⟨t, rfl⟩ := cells1 h4
  exact ⟨p, q, r, s, t, rfl⟩

theorem fit_quad {v : IV} (h : FitV (.agg [(1, intS), (1, intS), (1, intS), (1, intS)]) v) : ∃ p q r s, v = .agg [.int .i64 p, .int .i64 q, .int .i64 r, .int .i64 s] := by
  obtain ⟨xs, rfl, h⟩ := h
  have := fit_ints 4 xs h
  exact ⟨intAt xs 0, intAt xs 1, intAt xs 2, intAt xs 3, by rw [this]; simp [intAt, List.range, List.range.loop]⟩

theorem fit_slice3 {v : IV} (h : FitV (.slice 3 tripShp) v) : ∃ (n : Nat) (x y z : Nat → Int), n ≤ maxLen ∧ leV v (.lst none 3 n fun i => [.int .i64 (x i), .int .i64 (y i), .int .i64 (z i)]) := by
  obtain ⟨n, f, h, hn, hf⟩ := h
  obtain rfl := (List.cons.inj h).1
  refine ⟨n, fun i => intAt (f i) 0, fun i => intAt (f i) 1, fun i => intAt (f i) 2, hn, .inl rfl, rfl, rfl, fun i hi => ?_⟩
  obtain ⟨_, hf⟩ := hf i hi
  exact fit_ints 3 (f i) hf
end Go.Proofs.YtllmejkmogepjaaGreatDoor.Ix
