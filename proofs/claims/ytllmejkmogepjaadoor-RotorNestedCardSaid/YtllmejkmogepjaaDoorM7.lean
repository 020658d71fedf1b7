/-
  Lc1: RotorChosen: the law.
-/
import Derived.Test.YtllmejkmogepjaaDoorM6
namespace Go.Proofs.YtllmejkmogepjaaDoor.Ix
open Go.Proofs
set_option maxRecDepth 100000
set_option linter.unusedVariables false
set_option linter.unusedSimpArgs false
variable {gl : Nat → IV}

/-- What is read behind each call. -/
def lvChosen : List (Nat × List Nat) := [(20, [3, 4, 5, 6, 7, 8, 9, 10, 11, 20]), (25, [3, 4, 5, 6, 7, 8, 9, 10, 11, 22, 25]), (30, [3, 4, 5, 6, 7, 8, 9, 10, 11, 28, 30]), (35, [3, 4, 5, 6, 7, 8, 9, 10, 11, 33, 35]), (53, [3, 4, 5, 6, 7, 8, 9, 10, 11, 48, 53]), (67, [3, 4, 5, 6, 7, 8, 9, 10, 11, 64, 67]), (70, [3, 4, 5, 6, 7, 8, 9, 10, 11, 70]), (73, [3, 4, 5, 6, 7, 8, 9, 10, 11, 73]), (81, [3, 4, 5, 6, 7, 8, 9, 10, 11, 81]), (87, [3, 4, 5, 6, 7, 8, 9, 10, 11, 87]), (97, [3, 4, 5, 6, 7, 8, 9, 10, 11, 97]), (156, [3, 4, 5, 6, 7, 8, 9, 10, 11, 12, 14, 16, 156]), (165, [3, 4, 5, 6, 7, 8, 9, 10, 11, 12, 14, 16, 165]), (259, [3, 4, 5, 6, 7, 8, 9, 10, 11, 12, 14, 16, 259]), (260, [3, 4, 5, 6, 7, 8, 9, 10, 11, 12, 14, 16, 260]), (286, [4, 5, 6, 7, 8, 286]), (296, [6, 7, 8, 296])]
set_option maxHeartbeats 8000000 in
/-- Where the law asks nothing. -/
theorem chosen_guard (up : List Ces) (hr : gl g_rotor_roots = rootsI) (hp : gl g_internal_strconv_uint64pow10 = powI) (b : Bl) (f : Fl) (d x y m : Int)
    (H : lightB b f = true → b.err = 0 → f.err = 0 → 1 ≤ d → d ≤ 5 → pitchErr x y = 0 → w64 (y - x) ≤ 7 → withinS m (-1152921504606846976) 1152921504606846976 = 0 →
      Cs gl n_nacellelaw03_RotorChosen up [b.iv, f.iv, .agg [.int .i64 d, .int .i64 x, .int .i64 y, .int .i64 m]] (.bool true) up) :
    Cs gl n_nacellelaw03_RotorChosen up [b.iv, f.iv, .agg [.int .i64 d, .int .i64 x, .int .i64 y, .int .i64 m]] (.bool true) up := by
  have hA := fun up => c_awake (gl := gl) up hr hp
  have hS := fun up => c_light (gl := gl) up b f
  have hE := fun up => c_rCheckBlade (gl := gl) up b
  have hFl := fun up => c_rCheckFlow (gl := gl) up f.w f.s f.p
  have hCP := fun up => c_rCheckPitches (gl := gl) up x y
  have hCR := fun up => c_CheckRange (gl := gl) up m (-1152921504606846976) 1152921504606846976
  cases hs : lightB b f with
  | false =>
    rw [hs] at hS
    refine mk h_nacellelaw03_RotorChosen rfl rfl ?_
    conv => whnf
    repeat first
      | (show DRAW _ _ _ _ _; (first | refine .mk 0 (by decide +kernel) ?_ | refine .mk 1 (by decide +kernel) ?_ | refine .mk 2 (by decide +kernel) ?_ | refine .mk 3 (by decide +kernel) ?_ | refine .mk 4 (by decide +kernel) ?_ | refine .mk 5 (by decide +kernel) ?_ | refine .mk 6 (by decide +kernel) ?_ | refine .mk 7 (by decide +kernel) ?_ | refine .mk 8 (by decide +kernel) ?_ | refine .mk 9 (by decide +kernel) ?_ | refine .mk 10 (by decide +kernel) ?_ | refine .mk 11 (by decide +kernel) ?_ | refine .mk 12 (by decide +kernel) ?_ | refine .mk 13 (by decide +kernel) ?_ | refine .mk 14 (by decide +kernel) ?_ | refine .mk 15 (by decide +kernel) ?_ | refine .mk 16 (by decide +kernel) ?_ | refine .mk 17 (by decide +kernel) ?_ | refine .mk 18 (by decide +kernel) ?_ | refine .mk 19 (by decide +kernel) ?_ | refine .mk 20 (by decide +kernel) ?_ | refine .mk 21 (by decide +kernel) ?_ | refine .mk 22 (by decide +kernel) ?_ | refine .mk 23 (by decide +kernel) ?_ | refine .mk 24 (by decide +kernel) ?_ | refine .mk 25 (by decide +kernel) ?_ | refine .mk 26 (by decide +kernel) ?_ | refine .mk 27 (by decide +kernel) ?_ | refine .mk 28 (by decide +kernel) ?_ | refine .mk 29 (by decide +kernel) ?_ | refine .mk 30 (by decide +kernel) ?_ | refine .mk 31 (by decide +kernel) ?_ | refine .mk 32 (by decide +kernel) ?_ | refine .mk 33 (by decide +kernel) ?_ | refine .mk 34 (by decide +kernel) ?_ | refine .mk 35 (by decide +kernel) ?_ | refine .mk 36 (by decide +kernel) ?_ | refine .mk 37 (by decide +kernel) ?_ | refine .mk 38 (by decide +kernel) ?_ | refine .mk 39 (by decide +kernel) ?_ | refine .mk 40 (by decide +kernel) ?_ | refine .mk 41 (by decide +kernel) ?_); (conv => whnf))
      | (refine HOLD.mk (by first | exact trivial | exact ⟨⟨rfl, rfl⟩, trivial⟩ | exact ⟨⟨rfl, rfl⟩, ⟨rfl, rfl⟩, trivial⟩) ?_; (conv => whnf))
      | (refine CALL0.cutBy lvChosen _ _ _ _ _ (leL_refl _) (hA ..) rfl ?_; conv => whnf)
      | (refine CALL0.mk _ _ _ _ _ (leL_refl _) (hA ..) rfl ?_; conv => whnf)
      | (refine CALLQ.mk _ _ _ (leL_refl _) (hA ..) rfl ?_; conv => whnf)
      | (refine CALL0.cutBy lvChosen _ _ _ _ _ (leL_refl _) (hS ..) rfl ?_; conv => whnf)
      | (refine CALL0.mk _ _ _ _ _ (leL_refl _) (hS ..) rfl ?_; conv => whnf)
      | (refine CALLQ.mk _ _ _ (leL_refl _) (hS ..) rfl ?_; conv => whnf)
    exact ⟨rfl, rfl⟩
  | true =>
  rw [hs] at hS
  by_cases zB : b.err = 0
  rotate_left
  · have q : (b.err != 0) = true := by simpa using zB
    refine mk h_nacellelaw03_RotorChosen rfl rfl ?_
    conv => whnf
    repeat first
      | (show DRAW _ _ _ _ _; (first | refine .mk 0 (by decide +kernel) ?_ | refine .mk 1 (by decide +kernel) ?_ | refine .mk 2 (by decide +kernel) ?_ | refine .mk 3 (by decide +kernel) ?_ | refine .mk 4 (by decide +kernel) ?_ | refine .mk 5 (by decide +kernel) ?_ | refine .mk 6 (by decide +kernel) ?_ | refine .mk 7 (by decide +kernel) ?_ | refine .mk 8 (by decide +kernel) ?_ | refine .mk 9 (by decide +kernel) ?_ | refine .mk 10 (by decide +kernel) ?_ | refine .mk 11 (by decide +kernel) ?_ | refine .mk 12 (by decide +kernel) ?_ | refine .mk 13 (by decide +kernel) ?_ | refine .mk 14 (by decide +kernel) ?_ | refine .mk 15 (by decide +kernel) ?_ | refine .mk 16 (by decide +kernel) ?_ | refine .mk 17 (by decide +kernel) ?_ | refine .mk 18 (by decide +kernel) ?_ | refine .mk 19 (by decide +kernel) ?_ | refine .mk 20 (by decide +kernel) ?_ | refine .mk 21 (by decide +kernel) ?_ | refine .mk 22 (by decide +kernel) ?_ | refine .mk 23 (by decide +kernel) ?_ | refine .mk 24 (by decide +kernel) ?_ | refine .mk 25 (by decide +kernel) ?_ | refine .mk 26 (by decide +kernel) ?_ | refine .mk 27 (by decide +kernel) ?_ | refine .mk 28 (by decide +kernel) ?_ | refine .mk 29 (by decide +kernel) ?_ | refine .mk 30 (by decide +kernel) ?_ | refine .mk 31 (by decide +kernel) ?_ | refine .mk 32 (by decide +kernel) ?_ | refine .mk 33 (by decide +kernel) ?_ | refine .mk 34 (by decide +kernel) ?_ | refine .mk 35 (by decide +kernel) ?_ | refine .mk 36 (by decide +kernel) ?_ | refine .mk 37 (by decide +kernel) ?_ | refine .mk 38 (by decide +kernel) ?_ | refine .mk 39 (by decide +kernel) ?_ | refine .mk 40 (by decide +kernel) ?_ | refine .mk 41 (by decide +kernel) ?_); (conv => whnf))
      | (refine HOLD.mk (by first | exact trivial | exact ⟨⟨rfl, rfl⟩, trivial⟩ | exact ⟨⟨rfl, rfl⟩, ⟨rfl, rfl⟩, trivial⟩) ?_; (conv => whnf))
      | (refine CALL0.cutBy lvChosen _ _ _ _ _ (leL_refl _) (hA ..) rfl ?_; conv => whnf)
      | (refine CALL0.mk _ _ _ _ _ (leL_refl _) (hA ..) rfl ?_; conv => whnf)
      | (refine CALLQ.mk _ _ _ (leL_refl _) (hA ..) rfl ?_; conv => whnf)
      | (refine CALL0.cutBy lvChosen _ _ _ _ _ (leL_refl _) (hS ..) rfl ?_; conv => whnf)
      | (refine CALL0.mk _ _ _ _ _ (leL_refl _) (hS ..) rfl ?_; conv => whnf)
      | (refine CALLQ.mk _ _ _ (leL_refl _) (hS ..) rfl ?_; conv => whnf)
      | (refine CALL0.cutBy lvChosen _ _ _ _ _ (leL_refl _) (hE ..) rfl ?_; conv => whnf)
      | (refine CALL0.mk _ _ _ _ _ (leL_refl _) (hE ..) rfl ?_; conv => whnf)
      | (refine CALLQ.mk _ _ _ (leL_refl _) (hE ..) rfl ?_; conv => whnf)
    split
    rotate_left
    · rename_i h
      exact Bool.noConfusion ((q).symm.trans h)
    rename_i hN
    clear hN
    conv => whnf
    repeat first
      | (show DRAW _ _ _ _ _; (first | refine .mk 0 (by decide +kernel) ?_ | refine .mk 1 (by decide +kernel) ?_ | refine .mk 2 (by decide +kernel) ?_ | refine .mk 3 (by decide +kernel) ?_ | refine .mk 4 (by decide +kernel) ?_ | refine .mk 5 (by decide +kernel) ?_ | refine .mk 6 (by decide +kernel) ?_ | refine .mk 7 (by decide +kernel) ?_ | refine .mk 8 (by decide +kernel) ?_ | refine .mk 9 (by decide +kernel) ?_ | refine .mk 10 (by decide +kernel) ?_ | refine .mk 11 (by decide +kernel) ?_ | refine .mk 12 (by decide +kernel) ?_ | refine .mk 13 (by decide +kernel) ?_ | refine .mk 14 (by decide +kernel) ?_ | refine .mk 15 (by decide +kernel) ?_ | refine .mk 16 (by decide +kernel) ?_ | refine .mk 17 (by decide +kernel) ?_ | refine .mk 18 (by decide +kernel) ?_ | refine .mk 19 (by decide +kernel) ?_ | refine .mk 20 (by decide +kernel) ?_ | refine .mk 21 (by decide +kernel) ?_ | refine .mk 22 (by decide +kernel) ?_ | refine .mk 23 (by decide +kernel) ?_ | refine .mk 24 (by decide +kernel) ?_ | refine .mk 25 (by decide +kernel) ?_ | refine .mk 26 (by decide +kernel) ?_ | refine .mk 27 (by decide +kernel) ?_ | refine .mk 28 (by decide +kernel) ?_ | refine .mk 29 (by decide +kernel) ?_ | refine .mk 30 (by decide +kernel) ?_ | refine .mk 31 (by decide +kernel) ?_ | refine .mk 32 (by decide +kernel) ?_ | refine .mk 33 (by decide +kernel) ?_ | refine .mk 34 (by decide +kernel) ?_ | refine .mk 35 (by decide +kernel) ?_ | refine .mk 36 (by decide +kernel) ?_ | refine .mk 37 (by decide +kernel) ?_ | refine .mk 38 (by decide +kernel) ?_ | refine .mk 39 (by decide +kernel) ?_ | refine .mk 40 (by decide +kernel) ?_ | refine .mk 41 (by decide +kernel) ?_); (conv => whnf))
      | (refine HOLD.mk (by first | exact trivial | exact ⟨⟨rfl, rfl⟩, trivial⟩ | exact ⟨⟨rfl, rfl⟩, ⟨rfl, rfl⟩, trivial⟩) ?_; (conv => whnf))
      | (refine CALL0.cutBy lvChosen _ _ _ _ _ (leL_refl _) (hA ..) rfl ?_; conv => whnf)
      | (refine CALL0.mk _ _ _ _ _ (leL_refl _) (hA ..) rfl ?_; conv => whnf)
      | (refine CALLQ.mk _ _ _ (leL_refl _) (hA ..) rfl ?_; conv => whnf)
    exact ⟨rfl, rfl⟩
  rw [zB] at hE
  by_cases zF : f.err = 0
  rotate_left
  · have q : (flowS f.w f.s f.p != 0) = true := by simpa [Fl.err] using zF
    refine mk h_nacellelaw03_RotorChosen rfl rfl ?_
    conv => whnf
    repeat first
      | (show DRAW _ _ _ _ _; (first | refine .mk 0 (by decide +kernel) ?_ | refine .mk 1 (by decide +kernel) ?_ | refine .mk 2 (by decide +kernel) ?_ | refine .mk 3 (by decide +kernel) ?_ | refine .mk 4 (by decide +kernel) ?_ | refine .mk 5 (by decide +kernel) ?_ | refine .mk 6 (by decide +kernel) ?_ | refine .mk 7 (by decide +kernel) ?_ | refine .mk 8 (by decide +kernel) ?_ | refine .mk 9 (by decide +kernel) ?_ | refine .mk 10 (by decide +kernel) ?_ | refine .mk 11 (by decide +kernel) ?_ | refine .mk 12 (by decide +kernel) ?_ | refine .mk 13 (by decide +kernel) ?_ | refine .mk 14 (by decide +kernel) ?_ | refine .mk 15 (by decide +kernel) ?_ | refine .mk 16 (by decide +kernel) ?_ | refine .mk 17 (by decide +kernel) ?_ | refine .mk 18 (by decide +kernel) ?_ | refine .mk 19 (by decide +kernel) ?_ | refine .mk 20 (by decide +kernel) ?_ | refine .mk 21 (by decide +kernel) ?_ | refine .mk 22 (by decide +kernel) ?_ | refine .mk 23 (by decide +kernel) ?_ | refine .mk 24 (by decide +kernel) ?_ | refine .mk 25 (by decide +kernel) ?_ | refine .mk 26 (by decide +kernel) ?_ | refine .mk 27 (by decide +kernel) ?_ | refine .mk 28 (by decide +kernel) ?_ | refine .mk 29 (by decide +kernel) ?_ | refine .mk 30 (by decide +kernel) ?_ | refine .mk 31 (by decide +kernel) ?_ | refine .mk 32 (by decide +kernel) ?_ | refine .mk 33 (by decide +kernel) ?_ | refine .mk 34 (by decide +kernel) ?_ | refine .mk 35 (by decide +kernel) ?_ | refine .mk 36 (by decide +kernel) ?_ | refine .mk 37 (by decide +kernel) ?_ | refine .mk 38 (by decide +kernel) ?_ | refine .mk 39 (by decide +kernel) ?_ | refine .mk 40 (by decide +kernel) ?_ | refine .mk 41 (by decide +kernel) ?_); (conv => whnf))
      | (refine HOLD.mk (by first | exact trivial | exact ⟨⟨rfl, rfl⟩, trivial⟩ | exact ⟨⟨rfl, rfl⟩, ⟨rfl, rfl⟩, trivial⟩) ?_; (conv => whnf))
      | (refine CALL0.cutBy lvChosen _ _ _ _ _ (leL_refl _) (hA ..) rfl ?_; conv => whnf)
      | (refine CALL0.mk _ _ _ _ _ (leL_refl _) (hA ..) rfl ?_; conv => whnf)
      | (refine CALLQ.mk _ _ _ (leL_refl _) (hA ..) rfl ?_; conv => whnf)
      | (refine CALL0.cutBy lvChosen _ _ _ _ _ (leL_refl _) (hS ..) rfl ?_; conv => whnf)
      | (refine CALL0.mk _ _ _ _ _ (leL_refl _) (hS ..) rfl ?_; conv => whnf)
      | (refine CALLQ.mk _ _ _ (leL_refl _) (hS ..) rfl ?_; conv => whnf)
      | (refine CALL0.cutBy lvChosen _ _ _ _ _ (leL_refl _) (hE ..) rfl ?_; conv => whnf)
      | (refine CALL0.mk _ _ _ _ _ (leL_refl _) (hE ..) rfl ?_; conv => whnf)
      | (refine CALLQ.mk _ _ _ (leL_refl _) (hE ..) rfl ?_; conv => whnf)
      | (refine CALL0.cutBy lvChosen _ _ _ _ _ (leL_refl _) (hFl ..) rfl ?_; conv => whnf)
      | (refine CALL0.mk _ _ _ _ _ (leL_refl _) (hFl ..) rfl ?_; conv => whnf)
      | (refine CALLQ.mk _ _ _ (leL_refl _) (hFl ..) rfl ?_; conv => whnf)
    split
    rotate_left
    · rename_i h
      exact Bool.noConfusion ((q).symm.trans h)
    rename_i hN
    clear hN
    conv => whnf
    repeat first
      | (show DRAW _ _ _ _ _; (first | refine .mk 0 (by decide +kernel) ?_ | refine .mk 1 (by decide +kernel) ?_ | refine .mk 2 (by decide +kernel) ?_ | refine .mk 3 (by decide +kernel) ?_ | refine .mk 4 (by decide +kernel) ?_ | refine .mk 5 (by decide +kernel) ?_ | refine .mk 6 (by decide +kernel) ?_ | refine .mk 7 (by decide +kernel) ?_ | refine .mk 8 (by decide +kernel) ?_ | refine .mk 9 (by decide +kernel) ?_ | refine .mk 10 (by decide +kernel) ?_ | refine .mk 11 (by decide +kernel) ?_ | refine .mk 12 (by decide +kernel) ?_ | refine .mk 13 (by decide +kernel) ?_ | refine .mk 14 (by decide +kernel) ?_ | refine .mk 15 (by decide +kernel) ?_ | refine .mk 16 (by decide +kernel) ?_ | refine .mk 17 (by decide +kernel) ?_ | refine .mk 18 (by decide +kernel) ?_ | refine .mk 19 (by decide +kernel) ?_ | refine .mk 20 (by decide +kernel) ?_ | refine .mk 21 (by decide +kernel) ?_ | refine .mk 22 (by decide +kernel) ?_ | refine .mk 23 (by decide +kernel) ?_ | refine .mk 24 (by decide +kernel) ?_ | refine .mk 25 (by decide +kernel) ?_ | refine .mk 26 (by decide +kernel) ?_ | refine .mk 27 (by decide +kernel) ?_ | refine .mk 28 (by decide +kernel) ?_ | refine .mk 29 (by decide +kernel) ?_ | refine .mk 30 (by decide +kernel) ?_ | refine .mk 31 (by decide +kernel) ?_ | refine .mk 32 (by decide +kernel) ?_ | refine .mk 33 (by decide +kernel) ?_ | refine .mk 34 (by decide +kernel) ?_ | refine .mk 35 (by decide +kernel) ?_ | refine .mk 36 (by decide +kernel) ?_ | refine .mk 37 (by decide +kernel) ?_ | refine .mk 38 (by decide +kernel) ?_ | refine .mk 39 (by decide +kernel) ?_ | refine .mk 40 (by decide +kernel) ?_ | refine .mk 41 (by decide +kernel) ?_); (conv => whnf))
      | (refine HOLD.mk (by first | exact trivial | exact ⟨⟨rfl, rfl⟩, trivial⟩ | exact ⟨⟨rfl, rfl⟩, ⟨rfl, rfl⟩, trivial⟩) ?_; (conv => whnf))
      | (refine CALL0.cutBy lvChosen _ _ _ _ _ (leL_refl _) (hA ..) rfl ?_; conv => whnf)
      | (refine CALL0.mk _ _ _ _ _ (leL_refl _) (hA ..) rfl ?_; conv => whnf)
      | (refine CALLQ.mk _ _ _ (leL_refl _) (hA ..) rfl ?_; conv => whnf)
    exact ⟨rfl, rfl⟩
  have zF' : flowS f.w f.s f.p = 0 := zF
  rw [zF'] at hFl
  cases q1 : decide (d < 1) with
  | true =>
    refine mk h_nacellelaw03_RotorChosen rfl rfl ?_
    conv => whnf
    repeat first
      | (show DRAW _ _ _ _ _; (first | refine .mk 0 (by decide +kernel) ?_ | refine .mk 1 (by decide +kernel) ?_ | refine .mk 2 (by decide +kernel) ?_ | refine .mk 3 (by decide +kernel) ?_ | refine .mk 4 (by decide +kernel) ?_ | refine .mk 5 (by decide +kernel) ?_ | refine .mk 6 (by decide +kernel) ?_ | refine .mk 7 (by decide +kernel) ?_ | refine .mk 8 (by decide +kernel) ?_ | refine .mk 9 (by decide +kernel) ?_ | refine .mk 10 (by decide +kernel) ?_ | refine .mk 11 (by decide +kernel) ?_ | refine .mk 12 (by decide +kernel) ?_ | refine .mk 13 (by decide +kernel) ?_ | refine .mk 14 (by decide +kernel) ?_ | refine .mk 15 (by decide +kernel) ?_ | refine .mk 16 (by decide +kernel) ?_ | refine .mk 17 (by decide +kernel) ?_ | refine .mk 18 (by decide +kernel) ?_ | refine .mk 19 (by decide +kernel) ?_ | refine .mk 20 (by decide +kernel) ?_ | refine .mk 21 (by decide +kernel) ?_ | refine .mk 22 (by decide +kernel) ?_ | refine .mk 23 (by decide +kernel) ?_ | refine .mk 24 (by decide +kernel) ?_ | refine .mk 25 (by decide +kernel) ?_ | refine .mk 26 (by decide +kernel) ?_ | refine .mk 27 (by decide +kernel) ?_ | refine .mk 28 (by decide +kernel) ?_ | refine .mk 29 (by decide +kernel) ?_ | refine .mk 30 (by decide +kernel) ?_ | refine .mk 31 (by decide +kernel) ?_ | refine .mk 32 (by decide +kernel) ?_ | refine .mk 33 (by decide +kernel) ?_ | refine .mk 34 (by decide +kernel) ?_ | refine .mk 35 (by decide +kernel) ?_ | refine .mk 36 (by decide +kernel) ?_ | refine .mk 37 (by decide +kernel) ?_ | refine .mk 38 (by decide +kernel) ?_ | refine .mk 39 (by decide +kernel) ?_ | refine .mk 40 (by decide +kernel) ?_ | refine .mk 41 (by decide +kernel) ?_); (conv => whnf))
      | (refine HOLD.mk (by first | exact trivial | exact ⟨⟨rfl, rfl⟩, trivial⟩ | exact ⟨⟨rfl, rfl⟩, ⟨rfl, rfl⟩, trivial⟩) ?_; (conv => whnf))
      | (refine CALL0.cutBy lvChosen _ _ _ _ _ (leL_refl _) (hA ..) rfl ?_; conv => whnf)
      | (refine CALL0.mk _ _ _ _ _ (leL_refl _) (hA ..) rfl ?_; conv => whnf)
      | (refine CALLQ.mk _ _ _ (leL_refl _) (hA ..) rfl ?_; conv => whnf)
      | (refine CALL0.cutBy lvChosen _ _ _ _ _ (leL_refl _) (hS ..) rfl ?_; conv => whnf)
      | (refine CALL0.mk _ _ _ _ _ (leL_refl _) (hS ..) rfl ?_; conv => whnf)
      | (refine CALLQ.mk _ _ _ (leL_refl _) (hS ..) rfl ?_; conv => whnf)
      | (refine CALL0.cutBy lvChosen _ _ _ _ _ (leL_refl _) (hE ..) rfl ?_; conv => whnf)
      | (refine CALL0.mk _ _ _ _ _ (leL_refl _) (hE ..) rfl ?_; conv => whnf)
      | (refine CALLQ.mk _ _ _ (leL_refl _) (hE ..) rfl ?_; conv => whnf)
      | (refine CALL0.cutBy lvChosen _ _ _ _ _ (leL_refl _) (hFl ..) rfl ?_; conv => whnf)
      | (refine CALL0.mk _ _ _ _ _ (leL_refl _) (hFl ..) rfl ?_; conv => whnf)
      | (refine CALLQ.mk _ _ _ (leL_refl _) (hFl ..) rfl ?_; conv => whnf)
    split
    rotate_left
    · rename_i h
      exact Bool.noConfusion ((q1).symm.trans h)
    rename_i hN
    clear hN
    conv => whnf
    repeat first
      | (show DRAW _ _ _ _ _; (first | refine .mk 0 (by decide +kernel) ?_ | refine .mk 1 (by decide +kernel) ?_ | refine .mk 2 (by decide +kernel) ?_ | refine .mk 3 (by decide +kernel) ?_ | refine .mk 4 (by decide +kernel) ?_ | refine .mk 5 (by decide +kernel) ?_ | refine .mk 6 (by decide +kernel) ?_ | refine .mk 7 (by decide +kernel) ?_ | refine .mk 8 (by decide +kernel) ?_ | refine .mk 9 (by decide +kernel) ?_ | refine .mk 10 (by decide +kernel) ?_ | refine .mk 11 (by decide +kernel) ?_ | refine .mk 12 (by decide +kernel) ?_ | refine .mk 13 (by decide +kernel) ?_ | refine .mk 14 (by decide +kernel) ?_ | refine .mk 15 (by decide +kernel) ?_ | refine .mk 16 (by decide +kernel) ?_ | refine .mk 17 (by decide +kernel) ?_ | refine .mk 18 (by decide +kernel) ?_ | refine .mk 19 (by decide +kernel) ?_ | refine .mk 20 (by decide +kernel) ?_ | refine .mk 21 (by decide +kernel) ?_ | refine .mk 22 (by decide +kernel) ?_ | refine .mk 23 (by decide +kernel) ?_ | refine .mk 24 (by decide +kernel) ?_ | refine .mk 25 (by decide +kernel) ?_ | refine .mk 26 (by decide +kernel) ?_ | refine .mk 27 (by decide +kernel) ?_ | refine .mk 28 (by decide +kernel) ?_ | refine .mk 29 (by decide +kernel) ?_ | refine .mk 30 (by decide +kernel) ?_ | refine .mk 31 (by decide +kernel) ?_ | refine .mk 32 (by decide +kernel) ?_ | refine .mk 33 (by decide +kernel) ?_ | refine .mk 34 (by decide +kernel) ?_ | refine .mk 35 (by decide +kernel) ?_ | refine .mk 36 (by decide +kernel) ?_ | refine .mk 37 (by decide +kernel) ?_ | refine .mk 38 (by decide +kernel) ?_ | refine .mk 39 (by decide +kernel) ?_ | refine .mk 40 (by decide +kernel) ?_ | refine .mk 41 (by decide +kernel) ?_); (conv => whnf))
      | (refine HOLD.mk (by first | exact trivial | exact ⟨⟨rfl, rfl⟩, trivial⟩ | exact ⟨⟨rfl, rfl⟩, ⟨rfl, rfl⟩, trivial⟩) ?_; (conv => whnf))
      | (refine CALL0.cutBy lvChosen _ _ _ _ _ (leL_refl _) (hA ..) rfl ?_; conv => whnf)
      | (refine CALL0.mk _ _ _ _ _ (leL_refl _) (hA ..) rfl ?_; conv => whnf)
      | (refine CALLQ.mk _ _ _ (leL_refl _) (hA ..) rfl ?_; conv => whnf)
    exact ⟨rfl, rfl⟩
  | false =>
  cases q2 : decide (d > 5) with
  | true =>
    refine mk h_nacellelaw03_RotorChosen rfl rfl ?_
    conv => whnf
    repeat first
      | (show DRAW _ _ _ _ _; (first | refine .mk 0 (by decide +kernel) ?_ | refine .mk 1 (by decide +kernel) ?_ | refine .mk 2 (by decide +kernel) ?_ | refine .mk 3 (by decide +kernel) ?_ | refine .mk 4 (by decide +kernel) ?_ | refine .mk 5 (by decide +kernel) ?_ | refine .mk 6 (by decide +kernel) ?_ | refine .mk 7 (by decide +kernel) ?_ | refine .mk 8 (by decide +kernel) ?_ | refine .mk 9 (by decide +kernel) ?_ | refine .mk 10 (by decide +kernel) ?_ | refine .mk 11 (by decide +kernel) ?_ | refine .mk 12 (by decide +kernel) ?_ | refine .mk 13 (by decide +kernel) ?_ | refine .mk 14 (by decide +kernel) ?_ | refine .mk 15 (by decide +kernel) ?_ | refine .mk 16 (by decide +kernel) ?_ | refine .mk 17 (by decide +kernel) ?_ | refine .mk 18 (by decide +kernel) ?_ | refine .mk 19 (by decide +kernel) ?_ | refine .mk 20 (by decide +kernel) ?_ | refine .mk 21 (by decide +kernel) ?_ | refine .mk 22 (by decide +kernel) ?_ | refine .mk 23 (by decide +kernel) ?_ | refine .mk 24 (by decide +kernel) ?_ | refine .mk 25 (by decide +kernel) ?_ | refine .mk 26 (by decide +kernel) ?_ | refine .mk 27 (by decide +kernel) ?_ | refine .mk 28 (by decide +kernel) ?_ | refine .mk 29 (by decide +kernel) ?_ | refine .mk 30 (by decide +kernel) ?_ | refine .mk 31 (by decide +kernel) ?_ | refine .mk 32 (by decide +kernel) ?_ | refine .mk 33 (by decide +kernel) ?_ | refine .mk 34 (by decide +kernel) ?_ | refine .mk 35 (by decide +kernel) ?_ | refine .mk 36 (by decide +kernel) ?_ | refine .mk 37 (by decide +kernel) ?_ | refine .mk 38 (by decide +kernel) ?_ | refine .mk 39 (by decide +kernel) ?_ | refine .mk 40 (by decide +kernel) ?_ | refine .mk 41 (by decide +kernel) ?_); (conv => whnf))
      | (refine HOLD.mk (by first | exact trivial | exact ⟨⟨rfl, rfl⟩, trivial⟩ | exact ⟨⟨rfl, rfl⟩, ⟨rfl, rfl⟩, trivial⟩) ?_; (conv => whnf))
      | (refine CALL0.cutBy lvChosen _ _ _ _ _ (leL_refl _) (hA ..) rfl ?_; conv => whnf)
      | (refine CALL0.mk _ _ _ _ _ (leL_refl _) (hA ..) rfl ?_; conv => whnf)
      | (refine CALLQ.mk _ _ _ (leL_refl _) (hA ..) rfl ?_; conv => whnf)
      | (refine CALL0.cutBy lvChosen _ _ _ _ _ (leL_refl _) (hS ..) rfl ?_; conv => whnf)
      | (refine CALL0.mk _ _ _ _ _ (leL_refl _) (hS ..) rfl ?_; conv => whnf)
      | (refine CALLQ.mk _ _ _ (leL_refl _) (hS ..) rfl ?_; conv => whnf)
      | (refine CALL0.cutBy lvChosen _ _ _ _ _ (leL_refl _) (hE ..) rfl ?_; conv => whnf)
      | (refine CALL0.mk _ _ _ _ _ (leL_refl _) (hE ..) rfl ?_; conv => whnf)
      | (refine CALLQ.mk _ _ _ (leL_refl _) (hE ..) rfl ?_; conv => whnf)
      | (refine CALL0.cutBy lvChosen _ _ _ _ _ (leL_refl _) (hFl ..) rfl ?_; conv => whnf)
      | (refine CALL0.mk _ _ _ _ _ (leL_refl _) (hFl ..) rfl ?_; conv => whnf)
      | (refine CALLQ.mk _ _ _ (leL_refl _) (hFl ..) rfl ?_; conv => whnf)
    split
    · rename_i h
      exact Bool.noConfusion ((q1).symm.trans h)
    rename_i hN
    clear hN
    conv => whnf
    split
    rotate_left
    · rename_i h
      exact Bool.noConfusion ((q2).symm.trans h)
    rename_i hN
    clear hN
    conv => whnf
    repeat first
      | (show DRAW _ _ _ _ _; (first | refine .mk 0 (by decide +kernel) ?_ | refine .mk 1 (by decide +kernel) ?_ | refine .mk 2 (by decide +kernel) ?_ | refine .mk 3 (by decide +kernel) ?_ | refine .mk 4 (by decide +kernel) ?_ | refine .mk 5 (by decide +kernel) ?_ | refine .mk 6 (by decide +kernel) ?_ | refine .mk 7 (by decide +kernel) ?_ | refine .mk 8 (by decide +kernel) ?_ | refine .mk 9 (by decide +kernel) ?_ | refine .mk 10 (by decide +kernel) ?_ | refine .mk 11 (by decide +kernel) ?_ | refine .mk 12 (by decide +kernel) ?_ | refine .mk 13 (by decide +kernel) ?_ | refine .mk 14 (by decide +kernel) ?_ | refine .mk 15 (by decide +kernel) ?_ | refine .mk 16 (by decide +kernel) ?_ | refine .mk 17 (by decide +kernel) ?_ | refine .mk 18 (by decide +kernel) ?_ | refine .mk 19 (by decide +kernel) ?_ | refine .mk 20 (by decide +kernel) ?_ | refine .mk 21 (by decide +kernel) ?_ | refine .mk 22 (by decide +kernel) ?_ | refine .mk 23 (by decide +kernel) ?_ | refine .mk 24 (by decide +kernel) ?_ | refine .mk 25 (by decide +kernel) ?_ | refine .mk 26 (by decide +kernel) ?_ | refine .mk 27 (by decide +kernel) ?_ | refine .mk 28 (by decide +kernel) ?_ | refine .mk 29 (by decide +kernel) ?_ | refine .mk 30 (by decide +kernel) ?_ | refine .mk 31 (by decide +kernel) ?_ | refine .mk 32 (by decide +kernel) ?_ | refine .mk 33 (by decide +kernel) ?_ | refine .mk 34 (by decide +kernel) ?_ | refine .mk 35 (by decide +kernel) ?_ | refine .mk 36 (by decide +kernel) ?_ | refine .mk 37 (by decide +kernel) ?_ | refine .mk 38 (by decide +kernel) ?_ | refine .mk 39 (by decide +kernel) ?_ | refine .mk 40 (by decide +kernel) ?_ | refine .mk 41 (by decide +kernel) ?_); (conv => whnf))
      | (refine HOLD.mk (by first | exact trivial | exact ⟨⟨rfl, rfl⟩, trivial⟩ | exact ⟨⟨rfl, rfl⟩, ⟨rfl, rfl⟩, trivial⟩) ?_; (conv => whnf))
      | (refine CALL0.cutBy lvChosen _ _ _ _ _ (leL_refl _) (hA ..) rfl ?_; conv => whnf)
      | (refine CALL0.mk _ _ _ _ _ (leL_refl _) (hA ..) rfl ?_; conv => whnf)
      | (refine CALLQ.mk _ _ _ (leL_refl _) (hA ..) rfl ?_; conv => whnf)
    exact ⟨rfl, rfl⟩
  | false =>
  by_cases zP : pitchErr x y = 0
  rotate_left
  · have q : (pitchErr x y != 0) = true := by simpa using zP
    refine mk h_nacellelaw03_RotorChosen rfl rfl ?_
    conv => whnf
    repeat first
      | (show DRAW _ _ _ _ _; (first | refine .mk 0 (by decide +kernel) ?_ | refine .mk 1 (by decide +kernel) ?_ | refine .mk 2 (by decide +kernel) ?_ | refine .mk 3 (by decide +kernel) ?_ | refine .mk 4 (by decide +kernel) ?_ | refine .mk 5 (by decide +kernel) ?_ | refine .mk 6 (by decide +kernel) ?_ | refine .mk 7 (by decide +kernel) ?_ | refine .mk 8 (by decide +kernel) ?_ | refine .mk 9 (by decide +kernel) ?_ | refine .mk 10 (by decide +kernel) ?_ | refine .mk 11 (by decide +kernel) ?_ | refine .mk 12 (by decide +kernel) ?_ | refine .mk 13 (by decide +kernel) ?_ | refine .mk 14 (by decide +kernel) ?_ | refine .mk 15 (by decide +kernel) ?_ | refine .mk 16 (by decide +kernel) ?_ | refine .mk 17 (by decide +kernel) ?_ | refine .mk 18 (by decide +kernel) ?_ | refine .mk 19 (by decide +kernel) ?_ | refine .mk 20 (by decide +kernel) ?_ | refine .mk 21 (by decide +kernel) ?_ | refine .mk 22 (by decide +kernel) ?_ | refine .mk 23 (by decide +kernel) ?_ | refine .mk 24 (by decide +kernel) ?_ | refine .mk 25 (by decide +kernel) ?_ | refine .mk 26 (by decide +kernel) ?_ | refine .mk 27 (by decide +kernel) ?_ | refine .mk 28 (by decide +kernel) ?_ | refine .mk 29 (by decide +kernel) ?_ | refine .mk 30 (by decide +kernel) ?_ | refine .mk 31 (by decide +kernel) ?_ | refine .mk 32 (by decide +kernel) ?_ | refine .mk 33 (by decide +kernel) ?_ | refine .mk 34 (by decide +kernel) ?_ | refine .mk 35 (by decide +kernel) ?_ | refine .mk 36 (by decide +kernel) ?_ | refine .mk 37 (by decide +kernel) ?_ | refine .mk 38 (by decide +kernel) ?_ | refine .mk 39 (by decide +kernel) ?_ | refine .mk 40 (by decide +kernel) ?_ | refine .mk 41 (by decide +kernel) ?_); (conv => whnf))
      | (refine HOLD.mk (by first | exact trivial | exact ⟨⟨rfl, rfl⟩, trivial⟩ | exact ⟨⟨rfl, rfl⟩, ⟨rfl, rfl⟩, trivial⟩) ?_; (conv => whnf))
      | (refine CALL0.cutBy lvChosen _ _ _ _ _ (leL_refl _) (hA ..) rfl ?_; conv => whnf)
      | (refine CALL0.mk _ _ _ _ _ (leL_refl _) (hA ..) rfl ?_; conv => whnf)
      | (refine CALLQ.mk _ _ _ (leL_refl _) (hA ..) rfl ?_; conv => whnf)
      | (refine CALL0.cutBy lvChosen _ _ _ _ _ (leL_refl _) (hS ..) rfl ?_; conv => whnf)
      | (refine CALL0.mk _ _ _ _ _ (leL_refl _) (hS ..) rfl ?_; conv => whnf)
      | (refine CALLQ.mk _ _ _ (leL_refl _) (hS ..) rfl ?_; conv => whnf)
      | (refine CALL0.cutBy lvChosen _ _ _ _ _ (leL_refl _) (hE ..) rfl ?_; conv => whnf)
      | (refine CALL0.mk _ _ _ _ _ (leL_refl _) (hE ..) rfl ?_; conv => whnf)
      | (refine CALLQ.mk _ _ _ (leL_refl _) (hE ..) rfl ?_; conv => whnf)
      | (refine CALL0.cutBy lvChosen _ _ _ _ _ (leL_refl _) (hFl ..) rfl ?_; conv => whnf)
      | (refine CALL0.mk _ _ _ _ _ (leL_refl _) (hFl ..) rfl ?_; conv => whnf)
      | (refine CALLQ.mk _ _ _ (leL_refl _) (hFl ..) rfl ?_; conv => whnf)
    split
    · rename_i h
      exact Bool.noConfusion ((q1).symm.trans h)
    rename_i hN
    clear hN
    conv => whnf
    split
    · rename_i h
      exact Bool.noConfusion ((q2).symm.trans h)
    rename_i hN
    clear hN
    conv => whnf
    repeat first
      | (show DRAW _ _ _ _ _; (first | refine .mk 0 (by decide +kernel) ?_ | refine .mk 1 (by decide +kernel) ?_ | refine .mk 2 (by decide +kernel) ?_ | refine .mk 3 (by decide +kernel) ?_ | refine .mk 4 (by decide +kernel) ?_ | refine .mk 5 (by decide +kernel) ?_ | refine .mk 6 (by decide +kernel) ?_ | refine .mk 7 (by decide +kernel) ?_ | refine .mk 8 (by decide +kernel) ?_ | refine .mk 9 (by decide +kernel) ?_ | refine .mk 10 (by decide +kernel) ?_ | refine .mk 11 (by decide +kernel) ?_ | refine .mk 12 (by decide +kernel) ?_ | refine .mk 13 (by decide +kernel) ?_ | refine .mk 14 (by decide +kernel) ?_ | refine .mk 15 (by decide +kernel) ?_ | refine .mk 16 (by decide +kernel) ?_ | refine .mk 17 (by decide +kernel) ?_ | refine .mk 18 (by decide +kernel) ?_ | refine .mk 19 (by decide +kernel) ?_ | refine .mk 20 (by decide +kernel) ?_ | refine .mk 21 (by decide +kernel) ?_ | refine .mk 22 (by decide +kernel) ?_ | refine .mk 23 (by decide +kernel) ?_ | refine .mk 24 (by decide +kernel) ?_ | refine .mk 25 (by decide +kernel) ?_ | refine .mk 26 (by decide +kernel) ?_ | refine .mk 27 (by decide +kernel) ?_ | refine .mk 28 (by decide +kernel) ?_ | refine .mk 29 (by decide +kernel) ?_ | refine .mk 30 (by decide +kernel) ?_ | refine .mk 31 (by decide +kernel) ?_ | refine .mk 32 (by decide +kernel) ?_ | refine .mk 33 (by decide +kernel) ?_ | refine .mk 34 (by decide +kernel) ?_ | refine .mk 35 (by decide +kernel) ?_ | refine .mk 36 (by decide +kernel) ?_ | refine .mk 37 (by decide +kernel) ?_ | refine .mk 38 (by decide +kernel) ?_ | refine .mk 39 (by decide +kernel) ?_ | refine .mk 40 (by decide +kernel) ?_ | refine .mk 41 (by decide +kernel) ?_); (conv => whnf))
      | (refine HOLD.mk (by first | exact trivial | exact ⟨⟨rfl, rfl⟩, trivial⟩ | exact ⟨⟨rfl, rfl⟩, ⟨rfl, rfl⟩, trivial⟩) ?_; (conv => whnf))
      | (refine CALL0.cutBy lvChosen _ _ _ _ _ (leL_refl _) (hCP ..) rfl ?_; conv => whnf)
      | (refine CALL0.mk _ _ _ _ _ (leL_refl _) (hCP ..) rfl ?_; conv => whnf)
      | (refine CALLQ.mk _ _ _ (leL_refl _) (hCP ..) rfl ?_; conv => whnf)
    split
    rotate_left
    · rename_i h
      exact Bool.noConfusion ((q).symm.trans h)
    rename_i hN
    clear hN
    conv => whnf
    repeat first
      | (show DRAW _ _ _ _ _; (first | refine .mk 0 (by decide +kernel) ?_ | refine .mk 1 (by decide +kernel) ?_ | refine .mk 2 (by decide +kernel) ?_ | refine .mk 3 (by decide +kernel) ?_ | refine .mk 4 (by decide +kernel) ?_ | refine .mk 5 (by decide +kernel) ?_ | refine .mk 6 (by decide +kernel) ?_ | refine .mk 7 (by decide +kernel) ?_ | refine .mk 8 (by decide +kernel) ?_ | refine .mk 9 (by decide +kernel) ?_ | refine .mk 10 (by decide +kernel) ?_ | refine .mk 11 (by decide +kernel) ?_ | refine .mk 12 (by decide +kernel) ?_ | refine .mk 13 (by decide +kernel) ?_ | refine .mk 14 (by decide +kernel) ?_ | refine .mk 15 (by decide +kernel) ?_ | refine .mk 16 (by decide +kernel) ?_ | refine .mk 17 (by decide +kernel) ?_ | refine .mk 18 (by decide +kernel) ?_ | refine .mk 19 (by decide +kernel) ?_ | refine .mk 20 (by decide +kernel) ?_ | refine .mk 21 (by decide +kernel) ?_ | refine .mk 22 (by decide +kernel) ?_ | refine .mk 23 (by decide +kernel) ?_ | refine .mk 24 (by decide +kernel) ?_ | refine .mk 25 (by decide +kernel) ?_ | refine .mk 26 (by decide +kernel) ?_ | refine .mk 27 (by decide +kernel) ?_ | refine .mk 28 (by decide +kernel) ?_ | refine .mk 29 (by decide +kernel) ?_ | refine .mk 30 (by decide +kernel) ?_ | refine .mk 31 (by decide +kernel) ?_ | refine .mk 32 (by decide +kernel) ?_ | refine .mk 33 (by decide +kernel) ?_ | refine .mk 34 (by decide +kernel) ?_ | refine .mk 35 (by decide +kernel) ?_ | refine .mk 36 (by decide +kernel) ?_ | refine .mk 37 (by decide +kernel) ?_ | refine .mk 38 (by decide +kernel) ?_ | refine .mk 39 (by decide +kernel) ?_ | refine .mk 40 (by decide +kernel) ?_ | refine .mk 41 (by decide +kernel) ?_); (conv => whnf))
      | (refine HOLD.mk (by first | exact trivial | exact ⟨⟨rfl, rfl⟩, trivial⟩ | exact ⟨⟨rfl, rfl⟩, ⟨rfl, rfl⟩, trivial⟩) ?_; (conv => whnf))
      | (refine CALL0.cutBy lvChosen _ _ _ _ _ (leL_refl _) (hA ..) rfl ?_; conv => whnf)
      | (refine CALL0.mk _ _ _ _ _ (leL_refl _) (hA ..) rfl ?_; conv => whnf)
      | (refine CALLQ.mk _ _ _ (leL_refl _) (hA ..) rfl ?_; conv => whnf)
    exact ⟨rfl, rfl⟩
  rw [zP] at hCP
  cases q3 : decide (w64 (y - x) > 7) with
  | true =>
    refine mk h_nacellelaw03_RotorChosen rfl rfl ?_
    conv => whnf
    repeat first
      | (show DRAW _ _ _ _ _; (first | refine .mk 0 (by decide +kernel) ?_ | refine .mk 1 (by decide +kernel) ?_ | refine .mk 2 (by decide +kernel) ?_ | refine .mk 3 (by decide +kernel) ?_ | refine .mk 4 (by decide +kernel) ?_ | refine .mk 5 (by decide +kernel) ?_ | refine .mk 6 (by decide +kernel) ?_ | refine .mk 7 (by decide +kernel) ?_ | refine .mk 8 (by decide +kernel) ?_ | refine .mk 9 (by decide +kernel) ?_ | refine .mk 10 (by decide +kernel) ?_ | refine .mk 11 (by decide +kernel) ?_ | refine .mk 12 (by decide +kernel) ?_ | refine .mk 13 (by decide +kernel) ?_ | refine .mk 14 (by decide +kernel) ?_ | refine .mk 15 (by decide +kernel) ?_ | refine .mk 16 (by decide +kernel) ?_ | refine .mk 17 (by decide +kernel) ?_ | refine .mk 18 (by decide +kernel) ?_ | refine .mk 19 (by decide +kernel) ?_ | refine .mk 20 (by decide +kernel) ?_ | refine .mk 21 (by decide +kernel) ?_ | refine .mk 22 (by decide +kernel) ?_ | refine .mk 23 (by decide +kernel) ?_ | refine .mk 24 (by decide +kernel) ?_ | refine .mk 25 (by decide +kernel) ?_ | refine .mk 26 (by decide +kernel) ?_ | refine .mk 27 (by decide +kernel) ?_ | refine .mk 28 (by decide +kernel) ?_ | refine .mk 29 (by decide +kernel) ?_ | refine .mk 30 (by decide +kernel) ?_ | refine .mk 31 (by decide +kernel) ?_ | refine .mk 32 (by decide +kernel) ?_ | refine .mk 33 (by decide +kernel) ?_ | refine .mk 34 (by decide +kernel) ?_ | refine .mk 35 (by decide +kernel) ?_ | refine .mk 36 (by decide +kernel) ?_ | refine .mk 37 (by decide +kernel) ?_ | refine .mk 38 (by decide +kernel) ?_ | refine .mk 39 (by decide +kernel) ?_ | refine .mk 40 (by decide +kernel) ?_ | refine .mk 41 (by decide +kernel) ?_); (conv => whnf))
      | (refine HOLD.mk (by first | exact trivial | exact ⟨⟨rfl, rfl⟩, trivial⟩ | exact ⟨⟨rfl, rfl⟩, ⟨rfl, rfl⟩, trivial⟩) ?_; (conv => whnf))
      | (refine CALL0.cutBy lvChosen _ _ _ _ _ (leL_refl _) (hA ..) rfl ?_; conv => whnf)
      | (refine CALL0.mk _ _ _ _ _ (leL_refl _) (hA ..) rfl ?_; conv => whnf)
      | (refine CALLQ.mk _ _ _ (leL_refl _) (hA ..) rfl ?_; conv => whnf)
      | (refine CALL0.cutBy lvChosen _ _ _ _ _ (leL_refl _) (hS ..) rfl ?_; conv => whnf)
      | (refine CALL0.mk _ _ _ _ _ (leL_refl _) (hS ..) rfl ?_; conv => whnf)
      | (refine CALLQ.mk _ _ _ (leL_refl _) (hS ..) rfl ?_; conv => whnf)
      | (refine CALL0.cutBy lvChosen _ _ _ _ _ (leL_refl _) (hE ..) rfl ?_; conv => whnf)
      | (refine CALL0.mk _ _ _ _ _ (leL_refl _) (hE ..) rfl ?_; conv => whnf)
      | (refine CALLQ.mk _ _ _ (leL_refl _) (hE ..) rfl ?_; conv => whnf)
      | (refine CALL0.cutBy lvChosen _ _ _ _ _ (leL_refl _) (hFl ..) rfl ?_; conv => whnf)
      | (refine CALL0.mk _ _ _ _ _ (leL_refl _) (hFl ..) rfl ?_; conv => whnf)
      | (refine CALLQ.mk _ _ _ (leL_refl _) (hFl ..) rfl ?_; conv => whnf)
    split
    · rename_i h
      exact Bool.noConfusion ((q1).symm.trans h)
    rename_i hN
    clear hN
    conv => whnf
    split
    · rename_i h
      exact Bool.noConfusion ((q2).symm.trans h)
    rename_i hN
    clear hN
    conv => whnf
    repeat first
      | (show DRAW _ _ _ _ _; (first | refine .mk 0 (by decide +kernel) ?_ | refine .mk 1 (by decide +kernel) ?_ | refine .mk 2 (by decide +kernel) ?_ | refine .mk 3 (by decide +kernel) ?_ | refine .mk 4 (by decide +kernel) ?_ | refine .mk 5 (by decide +kernel) ?_ | refine .mk 6 (by decide +kernel) ?_ | refine .mk 7 (by decide +kernel) ?_ | refine .mk 8 (by decide +kernel) ?_ | refine .mk 9 (by decide +kernel) ?_ | refine .mk 10 (by decide +kernel) ?_ | refine .mk 11 (by decide +kernel) ?_ | refine .mk 12 (by decide +kernel) ?_ | refine .mk 13 (by decide +kernel) ?_ | refine .mk 14 (by decide +kernel) ?_ | refine .mk 15 (by decide +kernel) ?_ | refine .mk 16 (by decide +kernel) ?_ | refine .mk 17 (by decide +kernel) ?_ | refine .mk 18 (by decide +kernel) ?_ | refine .mk 19 (by decide +kernel) ?_ | refine .mk 20 (by decide +kernel) ?_ | refine .mk 21 (by decide +kernel) ?_ | refine .mk 22 (by decide +kernel) ?_ | refine .mk 23 (by decide +kernel) ?_ | refine .mk 24 (by decide +kernel) ?_ | refine .mk 25 (by decide +kernel) ?_ | refine .mk 26 (by decide +kernel) ?_ | refine .mk 27 (by decide +kernel) ?_ | refine .mk 28 (by decide +kernel) ?_ | refine .mk 29 (by decide +kernel) ?_ | refine .mk 30 (by decide +kernel) ?_ | refine .mk 31 (by decide +kernel) ?_ | refine .mk 32 (by decide +kernel) ?_ | refine .mk 33 (by decide +kernel) ?_ | refine .mk 34 (by decide +kernel) ?_ | refine .mk 35 (by decide +kernel) ?_ | refine .mk 36 (by decide +kernel) ?_ | refine .mk 37 (by decide +kernel) ?_ | refine .mk 38 (by decide +kernel) ?_ | refine .mk 39 (by decide +kernel) ?_ | refine .mk 40 (by decide +kernel) ?_ | refine .mk 41 (by decide +kernel) ?_); (conv => whnf))
      | (refine HOLD.mk (by first | exact trivial | exact ⟨⟨rfl, rfl⟩, trivial⟩ | exact ⟨⟨rfl, rfl⟩, ⟨rfl, rfl⟩, trivial⟩) ?_; (conv => whnf))
      | (refine CALL0.cutBy lvChosen _ _ _ _ _ (leL_refl _) (hCP ..) rfl ?_; conv => whnf)
      | (refine CALL0.mk _ _ _ _ _ (leL_refl _) (hCP ..) rfl ?_; conv => whnf)
      | (refine CALLQ.mk _ _ _ (leL_refl _) (hCP ..) rfl ?_; conv => whnf)
    split
    rotate_left
    · rename_i h
      exact Bool.noConfusion ((q3).symm.trans h)
    rename_i hN
    clear hN
    conv => whnf
    repeat first
      | (show DRAW _ _ _ _ _; (first | refine .mk 0 (by decide +kernel) ?_ | refine .mk 1 (by decide +kernel) ?_ | refine .mk 2 (by decide +kernel) ?_ | refine .mk 3 (by decide +kernel) ?_ | refine .mk 4 (by decide +kernel) ?_ | refine .mk 5 (by decide +kernel) ?_ | refine .mk 6 (by decide +kernel) ?_ | refine .mk 7 (by decide +kernel) ?_ | refine .mk 8 (by decide +kernel) ?_ | refine .mk 9 (by decide +kernel) ?_ | refine .mk 10 (by decide +kernel) ?_ | refine .mk 11 (by decide +kernel) ?_ | refine .mk 12 (by decide +kernel) ?_ | refine .mk 13 (by decide +kernel) ?_ | refine .mk 14 (by decide +kernel) ?_ | refine .mk 15 (by decide +kernel) ?_ | refine .mk 16 (by decide +kernel) ?_ | refine .mk 17 (by decide +kernel) ?_ | refine .mk 18 (by decide +kernel) ?_ | refine .mk 19 (by decide +kernel) ?_ | refine .mk 20 (by decide +kernel) ?_ | refine .mk 21 (by decide +kernel) ?_ | refine .mk 22 (by decide +kernel) ?_ | refine .mk 23 (by decide +kernel) ?_ | refine .mk 24 (by decide +kernel) ?_ | refine .mk 25 (by decide +kernel) ?_ | refine .mk 26 (by decide +kernel) ?_ | refine .mk 27 (by decide +kernel) ?_ | refine .mk 28 (by decide +kernel) ?_ | refine .mk 29 (by decide +kernel) ?_ | refine .mk 30 (by decide +kernel) ?_ | refine .mk 31 (by decide +kernel) ?_ | refine .mk 32 (by decide +kernel) ?_ | refine .mk 33 (by decide +kernel) ?_ | refine .mk 34 (by decide +kernel) ?_ | refine .mk 35 (by decide +kernel) ?_ | refine .mk 36 (by decide +kernel) ?_ | refine .mk 37 (by decide +kernel) ?_ | refine .mk 38 (by decide +kernel) ?_ | refine .mk 39 (by decide +kernel) ?_ | refine .mk 40 (by decide +kernel) ?_ | refine .mk 41 (by decide +kernel) ?_); (conv => whnf))
      | (refine HOLD.mk (by first | exact trivial | exact ⟨⟨rfl, rfl⟩, trivial⟩ | exact ⟨⟨rfl, rfl⟩, ⟨rfl, rfl⟩, trivial⟩) ?_; (conv => whnf))
      | (refine CALL0.cutBy lvChosen _ _ _ _ _ (leL_refl _) (hA ..) rfl ?_; conv => whnf)
      | (refine CALL0.mk _ _ _ _ _ (leL_refl _) (hA ..) rfl ?_; conv => whnf)
      | (refine CALLQ.mk _ _ _ (leL_refl _) (hA ..) rfl ?_; conv => whnf)
    exact ⟨rfl, rfl⟩
  | false =>
  by_cases zM : withinS m (-1152921504606846976) 1152921504606846976 = 0
  rotate_left
  · have q : (withinS m (-1152921504606846976) 1152921504606846976 != 0) = true := by simpa using zM
    refine mk h_nacellelaw03_RotorChosen rfl rfl ?_
    conv => whnf
    repeat first
      | (show DRAW _ _ _ _ _; (first | refine .mk 0 (by decide +kernel) ?_ | refine .mk 1 (by decide +kernel) ?_ | refine .mk 2 (by decide +kernel) ?_ | refine .mk 3 (by decide +kernel) ?_ | refine .mk 4 (by decide +kernel) ?_ | refine .mk 5 (by decide +kernel) ?_ | refine .mk 6 (by decide +kernel) ?_ | refine .mk 7 (by decide +kernel) ?_ | refine .mk 8 (by decide +kernel) ?_ | refine .mk 9 (by decide +kernel) ?_ | refine .mk 10 (by decide +kernel) ?_ | refine .mk 11 (by decide +kernel) ?_ | refine .mk 12 (by decide +kernel) ?_ | refine .mk 13 (by decide +kernel) ?_ | refine .mk 14 (by decide +kernel) ?_ | refine .mk 15 (by decide +kernel) ?_ | refine .mk 16 (by decide +kernel) ?_ | refine .mk 17 (by decide +kernel) ?_ | refine .mk 18 (by decide +kernel) ?_ | refine .mk 19 (by decide +kernel) ?_ | refine .mk 20 (by decide +kernel) ?_ | refine .mk 21 (by decide +kernel) ?_ | refine .mk 22 (by decide +kernel) ?_ | refine .mk 23 (by decide +kernel) ?_ | refine .mk 24 (by decide +kernel) ?_ | refine .mk 25 (by decide +kernel) ?_ | refine .mk 26 (by decide +kernel) ?_ | refine .mk 27 (by decide +kernel) ?_ | refine .mk 28 (by decide +kernel) ?_ | refine .mk 29 (by decide +kernel) ?_ | refine .mk 30 (by decide +kernel) ?_ | refine .mk 31 (by decide +kernel) ?_ | refine .mk 32 (by decide +kernel) ?_ | refine .mk 33 (by decide +kernel) ?_ | refine .mk 34 (by decide +kernel) ?_ | refine .mk 35 (by decide +kernel) ?_ | refine .mk 36 (by decide +kernel) ?_ | refine .mk 37 (by decide +kernel) ?_ | refine .mk 38 (by decide +kernel) ?_ | refine .mk 39 (by decide +kernel) ?_ | refine .mk 40 (by decide +kernel) ?_ | refine .mk 41 (by decide +kernel) ?_); (conv => whnf))
      | (refine HOLD.mk (by first | exact trivial | exact ⟨⟨rfl, rfl⟩, trivial⟩ | exact ⟨⟨rfl, rfl⟩, ⟨rfl, rfl⟩, trivial⟩) ?_; (conv => whnf))
      | (refine CALL0.cutBy lvChosen _ _ _ _ _ (leL_refl _) (hA ..) rfl ?_; conv => whnf)
      | (refine CALL0.mk _ _ _ _ _ (leL_refl _) (hA ..) rfl ?_; conv => whnf)
      | (refine CALLQ.mk _ _ _ (leL_refl _) (hA ..) rfl ?_; conv => whnf)
      | (refine CALL0.cutBy lvChosen _ _ _ _ _ (leL_refl _) (hS ..) rfl ?_; conv => whnf)
      | (refine CALL0.mk _ _ _ _ _ (leL_refl _) (hS ..) rfl ?_; conv => whnf)
      | (refine CALLQ.mk _ _ _ (leL_refl _) (hS ..) rfl ?_; conv => whnf)
      | (refine CALL0.cutBy lvChosen _ _ _ _ _ (leL_refl _) (hE ..) rfl ?_; conv => whnf)
      | (refine CALL0.mk _ _ _ _ _ (leL_refl _) (hE ..) rfl ?_; conv => whnf)
      | (refine CALLQ.mk _ _ _ (leL_refl _) (hE ..) rfl ?_; conv => whnf)
      | (refine CALL0.cutBy lvChosen _ _ _ _ _ (leL_refl _) (hFl ..) rfl ?_; conv => whnf)
      | (refine CALL0.mk _ _ _ _ _ (leL_refl _) (hFl ..) rfl ?_; conv => whnf)
      | (refine CALLQ.mk _ _ _ (leL_refl _) (hFl ..) rfl ?_; conv => whnf)
    split
    · rename_i h
      exact Bool.noConfusion ((q1).symm.trans h)
    rename_i hN
    clear hN
    conv => whnf
    split
    · rename_i h
      exact Bool.noConfusion ((q2).symm.trans h)
    rename_i hN
    clear hN
    conv => whnf
    repeat first
      | (show DRAW _ _ _ _ _; (first | refine .mk 0 (by decide +kernel) ?_ | refine .mk 1 (by decide +kernel) ?_ | refine .mk 2 (by decide +kernel) ?_ | refine .mk 3 (by decide +kernel) ?_ | refine .mk 4 (by decide +kernel) ?_ | refine .mk 5 (by decide +kernel) ?_ | refine .mk 6 (by decide +kernel) ?_ | refine .mk 7 (by decide +kernel) ?_ | refine .mk 8 (by decide +kernel) ?_ | refine .mk 9 (by decide +kernel) ?_ | refine .mk 10 (by decide +kernel) ?_ | refine .mk 11 (by decide +kernel) ?_ | refine .mk 12 (by decide +kernel) ?_ | refine .mk 13 (by decide +kernel) ?_ | refine .mk 14 (by decide +kernel) ?_ | refine .mk 15 (by decide +kernel) ?_ | refine .mk 16 (by decide +kernel) ?_ | refine .mk 17 (by decide +kernel) ?_ | refine .mk 18 (by decide +kernel) ?_ | refine .mk 19 (by decide +kernel) ?_ | refine .mk 20 (by decide +kernel) ?_ | refine .mk 21 (by decide +kernel) ?_ | refine .mk 22 (by decide +kernel) ?_ | refine .mk 23 (by decide +kernel) ?_ | refine .mk 24 (by decide +kernel) ?_ | refine .mk 25 (by decide +kernel) ?_ | refine .mk 26 (by decide +kernel) ?_ | refine .mk 27 (by decide +kernel) ?_ | refine .mk 28 (by decide +kernel) ?_ | refine .mk 29 (by decide +kernel) ?_ | refine .mk 30 (by decide +kernel) ?_ | refine .mk 31 (by decide +kernel) ?_ | refine .mk 32 (by decide +kernel) ?_ | refine .mk 33 (by decide +kernel) ?_ | refine .mk 34 (by decide +kernel) ?_ | refine .mk 35 (by decide +kernel) ?_ | refine .mk 36 (by decide +kernel) ?_ | refine .mk 37 (by decide +kernel) ?_ | refine .mk 38 (by decide +kernel) ?_ | refine .mk 39 (by decide +kernel) ?_ | refine .mk 40 (by decide +kernel) ?_ | refine .mk 41 (by decide +kernel) ?_); (conv => whnf))
      | (refine HOLD.mk (by first | exact trivial | exact ⟨⟨rfl, rfl⟩, trivial⟩ | exact ⟨⟨rfl, rfl⟩, ⟨rfl, rfl⟩, trivial⟩) ?_; (conv => whnf))
      | (refine CALL0.cutBy lvChosen _ _ _ _ _ (leL_refl _) (hCP ..) rfl ?_; conv => whnf)
      | (refine CALL0.mk _ _ _ _ _ (leL_refl _) (hCP ..) rfl ?_; conv => whnf)
      | (refine CALLQ.mk _ _ _ (leL_refl _) (hCP ..) rfl ?_; conv => whnf)
    split
    · rename_i h
      exact Bool.noConfusion ((q3).symm.trans h)
    rename_i hN
    clear hN
    conv => whnf
    repeat first
      | (show DRAW _ _ _ _ _; (first | refine .mk 0 (by decide +kernel) ?_ | refine .mk 1 (by decide +kernel) ?_ | refine .mk 2 (by decide +kernel) ?_ | refine .mk 3 (by decide +kernel) ?_ | refine .mk 4 (by decide +kernel) ?_ | refine .mk 5 (by decide +kernel) ?_ | refine .mk 6 (by decide +kernel) ?_ | refine .mk 7 (by decide +kernel) ?_ | refine .mk 8 (by decide +kernel) ?_ | refine .mk 9 (by decide +kernel) ?_ | refine .mk 10 (by decide +kernel) ?_ | refine .mk 11 (by decide +kernel) ?_ | refine .mk 12 (by decide +kernel) ?_ | refine .mk 13 (by decide +kernel) ?_ | refine .mk 14 (by decide +kernel) ?_ | refine .mk 15 (by decide +kernel) ?_ | refine .mk 16 (by decide +kernel) ?_ | refine .mk 17 (by decide +kernel) ?_ | refine .mk 18 (by decide +kernel) ?_ | refine .mk 19 (by decide +kernel) ?_ | refine .mk 20 (by decide +kernel) ?_ | refine .mk 21 (by decide +kernel) ?_ | refine .mk 22 (by decide +kernel) ?_ | refine .mk 23 (by decide +kernel) ?_ | refine .mk 24 (by decide +kernel) ?_ | refine .mk 25 (by decide +kernel) ?_ | refine .mk 26 (by decide +kernel) ?_ | refine .mk 27 (by decide +kernel) ?_ | refine .mk 28 (by decide +kernel) ?_ | refine .mk 29 (by decide +kernel) ?_ | refine .mk 30 (by decide +kernel) ?_ | refine .mk 31 (by decide +kernel) ?_ | refine .mk 32 (by decide +kernel) ?_ | refine .mk 33 (by decide +kernel) ?_ | refine .mk 34 (by decide +kernel) ?_ | refine .mk 35 (by decide +kernel) ?_ | refine .mk 36 (by decide +kernel) ?_ | refine .mk 37 (by decide +kernel) ?_ | refine .mk 38 (by decide +kernel) ?_ | refine .mk 39 (by decide +kernel) ?_ | refine .mk 40 (by decide +kernel) ?_ | refine .mk 41 (by decide +kernel) ?_); (conv => whnf))
      | (refine HOLD.mk (by first | exact trivial | exact ⟨⟨rfl, rfl⟩, trivial⟩ | exact ⟨⟨rfl, rfl⟩, ⟨rfl, rfl⟩, trivial⟩) ?_; (conv => whnf))
      | (refine CALL0.cutBy lvChosen _ _ _ _ _ (leL_refl _) (hCR ..) rfl ?_; conv => whnf)
      | (refine CALL0.mk _ _ _ _ _ (leL_refl _) (hCR ..) rfl ?_; conv => whnf)
      | (refine CALLQ.mk _ _ _ (leL_refl _) (hCR ..) rfl ?_; conv => whnf)
    split
    rotate_left
    · rename_i h
      exact Bool.noConfusion ((q).symm.trans h)
    rename_i hN
    clear hN
    conv => whnf
    repeat first
      | (show DRAW _ _ _ _ _; (first | refine .mk 0 (by decide +kernel) ?_ | refine .mk 1 (by decide +kernel) ?_ | refine .mk 2 (by decide +kernel) ?_ | refine .mk 3 (by decide +kernel) ?_ | refine .mk 4 (by decide +kernel) ?_ | refine .mk 5 (by decide +kernel) ?_ | refine .mk 6 (by decide +kernel) ?_ | refine .mk 7 (by decide +kernel) ?_ | refine .mk 8 (by decide +kernel) ?_ | refine .mk 9 (by decide +kernel) ?_ | refine .mk 10 (by decide +kernel) ?_ | refine .mk 11 (by decide +kernel) ?_ | refine .mk 12 (by decide +kernel) ?_ | refine .mk 13 (by decide +kernel) ?_ | refine .mk 14 (by decide +kernel) ?_ | refine .mk 15 (by decide +kernel) ?_ | refine .mk 16 (by decide +kernel) ?_ | refine .mk 17 (by decide +kernel) ?_ | refine .mk 18 (by decide +kernel) ?_ | refine .mk 19 (by decide +kernel) ?_ | refine .mk 20 (by decide +kernel) ?_ | refine .mk 21 (by decide +kernel) ?_ | refine .mk 22 (by decide +kernel) ?_ | refine .mk 23 (by decide +kernel) ?_ | refine .mk 24 (by decide +kernel) ?_ | refine .mk 25 (by decide +kernel) ?_ | refine .mk 26 (by decide +kernel) ?_ | refine .mk 27 (by decide +kernel) ?_ | refine .mk 28 (by decide +kernel) ?_ | refine .mk 29 (by decide +kernel) ?_ | refine .mk 30 (by decide +kernel) ?_ | refine .mk 31 (by decide +kernel) ?_ | refine .mk 32 (by decide +kernel) ?_ | refine .mk 33 (by decide +kernel) ?_ | refine .mk 34 (by decide +kernel) ?_ | refine .mk 35 (by decide +kernel) ?_ | refine .mk 36 (by decide +kernel) ?_ | refine .mk 37 (by decide +kernel) ?_ | refine .mk 38 (by decide +kernel) ?_ | refine .mk 39 (by decide +kernel) ?_ | refine .mk 40 (by decide +kernel) ?_ | refine .mk 41 (by decide +kernel) ?_); (conv => whnf))
      | (refine HOLD.mk (by first | exact trivial | exact ⟨⟨rfl, rfl⟩, trivial⟩ | exact ⟨⟨rfl, rfl⟩, ⟨rfl, rfl⟩, trivial⟩) ?_; (conv => whnf))
      | (refine CALL0.cutBy lvChosen _ _ _ _ _ (leL_refl _) (hA ..) rfl ?_; conv => whnf)
      | (refine CALL0.mk _ _ _ _ _ (leL_refl _) (hA ..) rfl ?_; conv => whnf)
      | (refine CALLQ.mk _ _ _ (leL_refl _) (hA ..) rfl ?_; conv => whnf)
    exact ⟨rfl, rfl⟩
  have k1 := of_decide_eq_false q1
  have k2 := of_decide_eq_false q2
  have k3 := of_decide_eq_false q3
  exact H hs zB zF (by omega) (by omega) zP (by omega) zM

theorem tq_none {b : Bl} {f : Fl} {n : Nat} (h : b.tq f n = none) : ¬ allBr b f 0 := fun q => by
  unfold Bl.tq at h
  rw [if_pos ((allBr_iff 0 n).1 q)] at h
  cases h

set_option maxHeartbeats 8000000 in
/-- No pitch has a torque. -/
theorem chosen_none (up : List Ces) (hr : gl g_rotor_roots = rootsI) (hp : gl g_internal_strconv_uint64pow10 = powI) (b : Bl) (f : Fl) (x y m : Int) (n : Nat) (hs : lightB b f = true) (zB : b.err = 0) (zF : f.err = 0) (hn5 : n + 1 ≤ 5)
    (p1 : -64 ≤ x) (p2 : x ≤ y) (p3 : y ≤ 64) (q3 : decide (w64 (y - x) > 7) = false) (zP : pitchErr x y = 0) (zM : withinS m (-1152921504606846976) 1152921504606846976 = 0) (N : Nat) (hN : y + 1 - x = N) (d : Int) (hd : d = ((n + 1 : Nat) : Int))
    (hall : ∀ k : Nat, k < N → b.tq (f.at (x + k)) n = none)
    (eB : bestR b f d x y = .tup [.int .i64 0, .agg [.int .i64 0, .int .i64 0], .int .i64 7]) (eL : limR b f d x y m = .tup [.int .i64 0, .int .i64 7]) :
    Cs gl n_nacellelaw03_RotorChosen up [b.iv, f.iv, .agg [.int .i64 d, .int .i64 x, .int .i64 y, .int .i64 m]] (.bool true) up := by
  have hsh : b.short = true := by
    unfold lightB at hs
    simp only [Bool.and_eq_true] at hs
    exact hs.1
  obtain ⟨hl, hdd, hnn⟩ := short_le hsh
  have hA := fun up => c_awake (gl := gl) up hr hp
  have hS := fun up => c_light (gl := gl) up b f
  have hE := fun up => c_rCheckBlade (gl := gl) up b
  have hFl := fun up => c_rCheckFlow (gl := gl) up f.w f.s f.p
  have hCP := fun up => c_rCheckPitches (gl := gl) up x y
  have hCR := fun up => c_CheckRange (gl := gl) up m (-1152921504606846976) 1152921504606846976
  rw [hs] at hS
  rw [zB] at hE
  have zF' : flowS f.w f.s f.p = 0 := zF
  rw [zF'] at hFl
  rw [zP] at hCP
  rw [zM] at hCR
  have hb := fun up => c_blade (gl := gl) up b hl hdd hnn
  have hB := fun up => c_Best (gl := gl) up b f d x y
  have hL := fun up => c_Limit (gl := gl) up b f d x y m
  rw [eB] at hB
  rw [eL] at hL
  have q1 : decide (d < 1) = false := decide_eq_false (by omega)
  have q2 : decide (d > 5) = false := decide_eq_false (by omega)
  have hT : ∀ up (k : Nat), k < N → Cs gl n_rotor_Torque up [b.iv, flowI f.w f.s (x + k), .int .i64 d] (.tup [.agg [.int .i64 0, .int .i64 0], .int .i64 7]) up := fun up k hk => by
    have h := c_Torque (gl := gl) up b (f.at (x + k)) d
    rw [hd, torR_ok ⟨zB, Fl.at_err zF (by omega) (by omega)⟩ (by omega), if_neg (tq_none (hall k hk)), ← hd] at h
    exact h
  clear eB eL hall
  refine mk h_nacellelaw03_RotorChosen rfl rfl ?_
  conv => whnf
  repeat first
    | (show DRAW _ _ _ _ _; (first | refine .mk 0 (by decide +kernel) ?_ | refine .mk 1 (by decide +kernel) ?_ | refine .mk 2 (by decide +kernel) ?_ | refine .mk 3 (by decide +kernel) ?_ | refine .mk 4 (by decide +kernel) ?_ | refine .mk 5 (by decide +kernel) ?_ | refine .mk 6 (by decide +kernel) ?_ | refine .mk 7 (by decide +kernel) ?_ | refine .mk 8 (by decide +kernel) ?_ | refine .mk 9 (by decide +kernel) ?_ | refine .mk 10 (by decide +kernel) ?_ | refine .mk 11 (by decide +kernel) ?_ | refine .mk 12 (by decide +kernel) ?_ | refine .mk 13 (by decide +kernel) ?_ | refine .mk 14 (by decide +kernel) ?_ | refine .mk 15 (by decide +kernel) ?_ | refine .mk 16 (by decide +kernel) ?_ | refine .mk 17 (by decide +kernel) ?_ | refine .mk 18 (by decide +kernel) ?_ | refine .mk 19 (by decide +kernel) ?_ | refine .mk 20 (by decide +kernel) ?_ | refine .mk 21 (by decide +kernel) ?_ | refine .mk 22 (by decide +kernel) ?_ | refine .mk 23 (by decide +kernel) ?_ | refine .mk 24 (by decide +kernel) ?_ | refine .mk 25 (by decide +kernel) ?_ | refine .mk 26 (by decide +kernel) ?_ | refine .mk 27 (by decide +kernel) ?_ | refine .mk 28 (by decide +kernel) ?_ | refine .mk 29 (by decide +kernel) ?_ | refine .mk 30 (by decide +kernel) ?_ | refine .mk 31 (by decide +kernel) ?_ | refine .mk 32 (by decide +kernel) ?_ | refine .mk 33 (by decide +kernel) ?_ | refine .mk 34 (by decide +kernel) ?_ | refine .mk 35 (by decide +kernel) ?_ | refine .mk 36 (by decide +kernel) ?_ | refine .mk 37 (by decide +kernel) ?_ | refine .mk 38 (by decide +kernel) ?_ | refine .mk 39 (by decide +kernel) ?_ | refine .mk 40 (by decide +kernel) ?_ | refine .mk 41 (by decide +kernel) ?_); (conv => whnf))
    | (refine HOLD.mk (by first | exact trivial | exact ⟨⟨rfl, rfl⟩, trivial⟩ | exact ⟨⟨rfl, rfl⟩, ⟨rfl, rfl⟩, trivial⟩) ?_; (conv => whnf))
    | (refine CALL0.cutBy lvChosen _ _ _ _ _ (leL_refl _) (hA ..) rfl ?_; conv => whnf)
    | (refine CALL0.mk _ _ _ _ _ (leL_refl _) (hA ..) rfl ?_; conv => whnf)
    | (refine CALLQ.mk _ _ _ (leL_refl _) (hA ..) rfl ?_; conv => whnf)
    | (refine CALL0.cutBy lvChosen _ _ _ _ _ (leL_refl _) (hS ..) rfl ?_; conv => whnf)
    | (refine CALL0.mk _ _ _ _ _ (leL_refl _) (hS ..) rfl ?_; conv => whnf)
    | (refine CALLQ.mk _ _ _ (leL_refl _) (hS ..) rfl ?_; conv => whnf)
    | (refine CALL0.cutBy lvChosen _ _ _ _ _ (leL_refl _) (hE ..) rfl ?_; conv => whnf)
    | (refine CALL0.mk _ _ _ _ _ (leL_refl _) (hE ..) rfl ?_; conv => whnf)
    | (refine CALLQ.mk _ _ _ (leL_refl _) (hE ..) rfl ?_; conv => whnf)
    | (refine CALL0.cutBy lvChosen _ _ _ _ _ (leL_refl _) (hFl ..) rfl ?_; conv => whnf)
    | (refine CALL0.mk _ _ _ _ _ (leL_refl _) (hFl ..) rfl ?_; conv => whnf)
    | (refine CALLQ.mk _ _ _ (leL_refl _) (hFl ..) rfl ?_; conv => whnf)
  split
  · rename_i h
    exact Bool.noConfusion ((q1).symm.trans h)
  rename_i hN
  clear hN
  conv => whnf
  split
  · rename_i h
    exact Bool.noConfusion ((q2).symm.trans h)
  rename_i hN
  clear hN
  conv => whnf
  repeat first
    | (show DRAW _ _ _ _ _; (first | refine .mk 0 (by decide +kernel) ?_ | refine .mk 1 (by decide +kernel) ?_ | refine .mk 2 (by decide +kernel) ?_ | refine .mk 3 (by decide +kernel) ?_ | refine .mk 4 (by decide +kernel) ?_ | refine .mk 5 (by decide +kernel) ?_ | refine .mk 6 (by decide +kernel) ?_ | refine .mk 7 (by decide +kernel) ?_ | refine .mk 8 (by decide +kernel) ?_ | refine .mk 9 (by decide +kernel) ?_ | refine .mk 10 (by decide +kernel) ?_ | refine .mk 11 (by decide +kernel) ?_ | refine .mk 12 (by decide +kernel) ?_ | refine .mk 13 (by decide +kernel) ?_ | refine .mk 14 (by decide +kernel) ?_ | refine .mk 15 (by decide +kernel) ?_ | refine .mk 16 (by decide +kernel) ?_ | refine .mk 17 (by decide +kernel) ?_ | refine .mk 18 (by decide +kernel) ?_ | refine .mk 19 (by decide +kernel) ?_ | refine .mk 20 (by decide +kernel) ?_ | refine .mk 21 (by decide +kernel) ?_ | refine .mk 22 (by decide +kernel) ?_ | refine .mk 23 (by decide +kernel) ?_ | refine .mk 24 (by decide +kernel) ?_ | refine .mk 25 (by decide +kernel) ?_ | refine .mk 26 (by decide +kernel) ?_ | refine .mk 27 (by decide +kernel) ?_ | refine .mk 28 (by decide +kernel) ?_ | refine .mk 29 (by decide +kernel) ?_ | refine .mk 30 (by decide +kernel) ?_ | refine .mk 31 (by decide +kernel) ?_ | refine .mk 32 (by decide +kernel) ?_ | refine .mk 33 (by decide +kernel) ?_ | refine .mk 34 (by decide +kernel) ?_ | refine .mk 35 (by decide +kernel) ?_ | refine .mk 36 (by decide +kernel) ?_ | refine .mk 37 (by decide +kernel) ?_ | refine .mk 38 (by decide +kernel) ?_ | refine .mk 39 (by decide +kernel) ?_ | refine .mk 40 (by decide +kernel) ?_ | refine .mk 41 (by decide +kernel) ?_); (conv => whnf))
    | (refine HOLD.mk (by first | exact trivial | exact ⟨⟨rfl, rfl⟩, trivial⟩ | exact ⟨⟨rfl, rfl⟩, ⟨rfl, rfl⟩, trivial⟩) ?_; (conv => whnf))
    | (refine CALL0.cutBy lvChosen _ _ _ _ _ (leL_refl _) (hCP ..) rfl ?_; conv => whnf)
    | (refine CALL0.mk _ _ _ _ _ (leL_refl _) (hCP ..) rfl ?_; conv => whnf)
    | (refine CALLQ.mk _ _ _ (leL_refl _) (hCP ..) rfl ?_; conv => whnf)
  split
  · rename_i h
    exact Bool.noConfusion ((q3).symm.trans h)
  rename_i hN
  clear hN
  conv => whnf
  repeat first
    | (show DRAW _ _ _ _ _; (first | refine .mk 0 (by decide +kernel) ?_ | refine .mk 1 (by decide +kernel) ?_ | refine .mk 2 (by decide +kernel) ?_ | refine .mk 3 (by decide +kernel) ?_ | refine .mk 4 (by decide +kernel) ?_ | refine .mk 5 (by decide +kernel) ?_ | refine .mk 6 (by decide +kernel) ?_ | refine .mk 7 (by decide +kernel) ?_ | refine .mk 8 (by decide +kernel) ?_ | refine .mk 9 (by decide +kernel) ?_ | refine .mk 10 (by decide +kernel) ?_ | refine .mk 11 (by decide +kernel) ?_ | refine .mk 12 (by decide +kernel) ?_ | refine .mk 13 (by decide +kernel) ?_ | refine .mk 14 (by decide +kernel) ?_ | refine .mk 15 (by decide +kernel) ?_ | refine .mk 16 (by decide +kernel) ?_ | refine .mk 17 (by decide +kernel) ?_ | refine .mk 18 (by decide +kernel) ?_ | refine .mk 19 (by decide +kernel) ?_ | refine .mk 20 (by decide +kernel) ?_ | refine .mk 21 (by decide +kernel) ?_ | refine .mk 22 (by decide +kernel) ?_ | refine .mk 23 (by decide +kernel) ?_ | refine .mk 24 (by decide +kernel) ?_ | refine .mk 25 (by decide +kernel) ?_ | refine .mk 26 (by decide +kernel) ?_ | refine .mk 27 (by decide +kernel) ?_ | refine .mk 28 (by decide +kernel) ?_ | refine .mk 29 (by decide +kernel) ?_ | refine .mk 30 (by decide +kernel) ?_ | refine .mk 31 (by decide +kernel) ?_ | refine .mk 32 (by decide +kernel) ?_ | refine .mk 33 (by decide +kernel) ?_ | refine .mk 34 (by decide +kernel) ?_ | refine .mk 35 (by decide +kernel) ?_ | refine .mk 36 (by decide +kernel) ?_ | refine .mk 37 (by decide +kernel) ?_ | refine .mk 38 (by decide +kernel) ?_ | refine .mk 39 (by decide +kernel) ?_ | refine .mk 40 (by decide +kernel) ?_ | refine .mk 41 (by decide +kernel) ?_); (conv => whnf))
    | (refine HOLD.mk (by first | exact trivial | exact ⟨⟨rfl, rfl⟩, trivial⟩ | exact ⟨⟨rfl, rfl⟩, ⟨rfl, rfl⟩, trivial⟩) ?_; (conv => whnf))
    | (refine CALL0.cutBy lvChosen _ _ _ _ _ (leL_refl _) (hCR ..) rfl ?_; conv => whnf)
    | (refine CALL0.mk _ _ _ _ _ (leL_refl _) (hCR ..) rfl ?_; conv => whnf)
    | (refine CALLQ.mk _ _ _ (leL_refl _) (hCR ..) rfl ?_; conv => whnf)
    | (refine CALL0.cutBy lvChosen _ _ _ _ _ (leL_refl _) (hA ..) rfl ?_; conv => whnf)
    | (refine CALL0.mk _ _ _ _ _ (leL_refl _) (hA ..) rfl ?_; conv => whnf)
    | (refine CALLQ.mk _ _ _ (leL_refl _) (hA ..) rfl ?_; conv => whnf)
  repeat first
    | (show DRAW _ _ _ _ _; (first | refine .mk 0 (by decide +kernel) ?_ | refine .mk 1 (by decide +kernel) ?_ | refine .mk 2 (by decide +kernel) ?_ | refine .mk 3 (by decide +kernel) ?_ | refine .mk 4 (by decide +kernel) ?_ | refine .mk 5 (by decide +kernel) ?_ | refine .mk 6 (by decide +kernel) ?_ | refine .mk 7 (by decide +kernel) ?_ | refine .mk 8 (by decide +kernel) ?_ | refine .mk 9 (by decide +kernel) ?_ | refine .mk 10 (by decide +kernel) ?_ | refine .mk 11 (by decide +kernel) ?_ | refine .mk 12 (by decide +kernel) ?_ | refine .mk 13 (by decide +kernel) ?_ | refine .mk 14 (by decide +kernel) ?_ | refine .mk 15 (by decide +kernel) ?_ | refine .mk 16 (by decide +kernel) ?_ | refine .mk 17 (by decide +kernel) ?_ | refine .mk 18 (by decide +kernel) ?_ | refine .mk 19 (by decide +kernel) ?_ | refine .mk 20 (by decide +kernel) ?_ | refine .mk 21 (by decide +kernel) ?_ | refine .mk 22 (by decide +kernel) ?_ | refine .mk 23 (by decide +kernel) ?_ | refine .mk 24 (by decide +kernel) ?_ | refine .mk 25 (by decide +kernel) ?_ | refine .mk 26 (by decide +kernel) ?_ | refine .mk 27 (by decide +kernel) ?_ | refine .mk 28 (by decide +kernel) ?_ | refine .mk 29 (by decide +kernel) ?_ | refine .mk 30 (by decide +kernel) ?_ | refine .mk 31 (by decide +kernel) ?_ | refine .mk 32 (by decide +kernel) ?_ | refine .mk 33 (by decide +kernel) ?_ | refine .mk 34 (by decide +kernel) ?_ | refine .mk 35 (by decide +kernel) ?_ | refine .mk 36 (by decide +kernel) ?_ | refine .mk 37 (by decide +kernel) ?_ | refine .mk 38 (by decide +kernel) ?_ | refine .mk 39 (by decide +kernel) ?_ | refine .mk 40 (by decide +kernel) ?_ | refine .mk 41 (by decide +kernel) ?_); (conv => whnf))
    | (refine HOLD.mk (by first | exact trivial | exact ⟨⟨rfl, rfl⟩, trivial⟩ | exact ⟨⟨rfl, rfl⟩, ⟨rfl, rfl⟩, trivial⟩) ?_; (conv => whnf))
    | (refine CALL0.cutBy lvChosen _ _ _ _ _ (leL_refl _) (hb ..) rfl ?_; conv => whnf)
    | (refine CALL0.mk _ _ _ _ _ (leL_refl _) (hb ..) rfl ?_; conv => whnf)
    | (refine CALLQ.mk _ _ _ (leL_refl _) (hb ..) rfl ?_; conv => whnf)
    | (refine CALL0.cutBy lvChosen _ _ _ _ _ (leL_refl _) (hB ..) rfl ?_; conv => whnf)
    | (refine CALL0.mk _ _ _ _ _ (leL_refl _) (hB ..) rfl ?_; conv => whnf)
    | (refine CALLQ.mk _ _ _ (leL_refl _) (hB ..) rfl ?_; conv => whnf)
    | (refine CALL0.cutBy lvChosen _ _ _ _ _ (leL_refl _) (hL ..) rfl ?_; conv => whnf)
    | (refine CALL0.mk _ _ _ _ _ (leL_refl _) (hL ..) rfl ?_; conv => whnf)
    | (refine CALLQ.mk _ _ _ (leL_refl _) (hL ..) rfl ?_; conv => whnf)
  refine .mk (α := {k : Nat // k ≤ N}) (fun k => ⟨[(12, .int .i64 (x + k.1)), (7, .int .i64 0), (9, .int .i64 7), (10, .int .i64 0), (11, .int .i64 7), (3, .ptr 0 3 0), (4, .ptr 0 4 0), (5, .ptr 0 5 0), (8, .ptr 0 8 0), (6, .bool false)],
    [(8, [.int .i64 0, .int .i64 0]), (5, [.int .i64 d, .int .i64 x, .int .i64 y, .int .i64 m]), (4, [.int .i64 f.w, .int .i64 f.s, .int .i64 f.p]),
     (3, [.lst none 1 b.nl fun i => [.int .i64 (b.lf i)], .lst none 1 b.nd fun i => [.int .i64 (b.df i)], .lst none 4 b.nr fun i => [.int .i64 (b.r1 i), .int .i64 (b.r2 i), .int .i64 (b.r3 i), .int .i64 (b.r4 i)]])], up⟩) (fun k => N - k.1) ⟨0, Nat.zero_le _⟩ ⟨?_, ?_, rfl, rfl⟩ ?_
  · exact ⟨leV_int (by show x = x + ((0 : Nat) : Int); omega), leV_refl _, leV_refl _, leV_refl _, leV_refl _, leV_refl _, leV_refl _, leV_refl _, leV_refl _, leV_refl _, trivial⟩
  · exact ⟨leL_refl _, leL_refl _, leL_refl _, leL_refl _, trivial⟩
  rintro ⟨k, hk⟩
  have hw : w64 (x + k + 1) = x + ((k + 1 : Nat) : Int) := by rw [w64, wrap_in] <;> omega
  by_cases hlt : k < N
  · have q : decide (x + k ≤ y) = true := decide_eq_true (by omega)
    have hT' := fun up => hT up k hlt
    conv => whnf
    split
    rotate_left
    · rename_i h
      exact Bool.noConfusion ((q).symm.trans h)
    rename_i hN
    clear hN
    conv => whnf
    repeat first
      | (show DRAW _ _ _ _ _; (first | refine .mk 0 (by decide +kernel) ?_ | refine .mk 1 (by decide +kernel) ?_ | refine .mk 2 (by decide +kernel) ?_ | refine .mk 3 (by decide +kernel) ?_ | refine .mk 4 (by decide +kernel) ?_ | refine .mk 5 (by decide +kernel) ?_ | refine .mk 6 (by decide +kernel) ?_ | refine .mk 7 (by decide +kernel) ?_ | refine .mk 8 (by decide +kernel) ?_ | refine .mk 9 (by decide +kernel) ?_ | refine .mk 10 (by decide +kernel) ?_ | refine .mk 11 (by decide +kernel) ?_ | refine .mk 12 (by decide +kernel) ?_ | refine .mk 13 (by decide +kernel) ?_ | refine .mk 14 (by decide +kernel) ?_ | refine .mk 15 (by decide +kernel) ?_ | refine .mk 16 (by decide +kernel) ?_ | refine .mk 17 (by decide +kernel) ?_ | refine .mk 18 (by decide +kernel) ?_ | refine .mk 19 (by decide +kernel) ?_ | refine .mk 20 (by decide +kernel) ?_ | refine .mk 21 (by decide +kernel) ?_ | refine .mk 22 (by decide +kernel) ?_ | refine .mk 23 (by decide +kernel) ?_ | refine .mk 24 (by decide +kernel) ?_ | refine .mk 25 (by decide +kernel) ?_ | refine .mk 26 (by decide +kernel) ?_ | refine .mk 27 (by decide +kernel) ?_ | refine .mk 28 (by decide +kernel) ?_ | refine .mk 29 (by decide +kernel) ?_ | refine .mk 30 (by decide +kernel) ?_ | refine .mk 31 (by decide +kernel) ?_ | refine .mk 32 (by decide +kernel) ?_ | refine .mk 33 (by decide +kernel) ?_ | refine .mk 34 (by decide +kernel) ?_ | refine .mk 35 (by decide +kernel) ?_ | refine .mk 36 (by decide +kernel) ?_ | refine .mk 37 (by decide +kernel) ?_ | refine .mk 38 (by decide +kernel) ?_ | refine .mk 39 (by decide +kernel) ?_ | refine .mk 40 (by decide +kernel) ?_ | refine .mk 41 (by decide +kernel) ?_); (conv => whnf))
      | (refine HOLD.mk (by first | exact trivial | exact ⟨⟨rfl, rfl⟩, trivial⟩ | exact ⟨⟨rfl, rfl⟩, ⟨rfl, rfl⟩, trivial⟩) ?_; (conv => whnf))
      | (refine CALL0.cutBy lvChosen _ _ _ _ _ (leL_refl _) (hb ..) rfl ?_; conv => whnf)
      | (refine CALL0.mk _ _ _ _ _ (leL_refl _) (hb ..) rfl ?_; conv => whnf)
      | (refine CALLQ.mk _ _ _ (leL_refl _) (hb ..) rfl ?_; conv => whnf)
      | (refine CALL0.cutBy lvChosen _ _ _ _ _ (leL_refl _) (hT' ..) rfl ?_; conv => whnf)
      | (refine CALL0.mk _ _ _ _ _ (leL_refl _) (hT' ..) rfl ?_; conv => whnf)
      | (refine CALLQ.mk _ _ _ (leL_refl _) (hT' ..) rfl ?_; conv => whnf)
    exact ⟨⟨k + 1, hlt⟩, ⟨⟨leV_int hw, leV_refl _, leV_refl _, leV_refl _, leV_refl _, leV_refl _, leV_refl _, leV_refl _, leV_refl _, leV_refl _, trivial⟩, ⟨leL_refl _, leL_refl _, leL_refl _, leL_refl _, trivial⟩, rfl, rfl⟩, (by show N - (k + 1) < N - k; omega)⟩
  · have q : decide (x + k ≤ y) = false := decide_eq_false (by omega)
    have : k = N := by omega
    subst this
    conv => whnf
    split
    · rename_i h
      exact Bool.noConfusion ((q).symm.trans h)
    rename_i hN
    clear hN
    conv => whnf
    repeat first
      | (show DRAW _ _ _ _ _; (first | refine .mk 0 (by decide +kernel) ?_ | refine .mk 1 (by decide +kernel) ?_ | refine .mk 2 (by decide +kernel) ?_ | refine .mk 3 (by decide +kernel) ?_ | refine .mk 4 (by decide +kernel) ?_ | refine .mk 5 (by decide +kernel) ?_ | refine .mk 6 (by decide +kernel) ?_ | refine .mk 7 (by decide +kernel) ?_ | refine .mk 8 (by decide +kernel) ?_ | refine .mk 9 (by decide +kernel) ?_ | refine .mk 10 (by decide +kernel) ?_ | refine .mk 11 (by decide +kernel) ?_ | refine .mk 12 (by decide +kernel) ?_ | refine .mk 13 (by decide +kernel) ?_ | refine .mk 14 (by decide +kernel) ?_ | refine .mk 15 (by decide +kernel) ?_ | refine .mk 16 (by decide +kernel) ?_ | refine .mk 17 (by decide +kernel) ?_ | refine .mk 18 (by decide +kernel) ?_ | refine .mk 19 (by decide +kernel) ?_ | refine .mk 20 (by decide +kernel) ?_ | refine .mk 21 (by decide +kernel) ?_ | refine .mk 22 (by decide +kernel) ?_ | refine .mk 23 (by decide +kernel) ?_ | refine .mk 24 (by decide +kernel) ?_ | refine .mk 25 (by decide +kernel) ?_ | refine .mk 26 (by decide +kernel) ?_ | refine .mk 27 (by decide +kernel) ?_ | refine .mk 28 (by decide +kernel) ?_ | refine .mk 29 (by decide +kernel) ?_ | refine .mk 30 (by decide +kernel) ?_ | refine .mk 31 (by decide +kernel) ?_ | refine .mk 32 (by decide +kernel) ?_ | refine .mk 33 (by decide +kernel) ?_ | refine .mk 34 (by decide +kernel) ?_ | refine .mk 35 (by decide +kernel) ?_ | refine .mk 36 (by decide +kernel) ?_ | refine .mk 37 (by decide +kernel) ?_ | refine .mk 38 (by decide +kernel) ?_ | refine .mk 39 (by decide +kernel) ?_ | refine .mk 40 (by decide +kernel) ?_ | refine .mk 41 (by decide +kernel) ?_); (conv => whnf))
      | (refine HOLD.mk (by first | exact trivial | exact ⟨⟨rfl, rfl⟩, trivial⟩ | exact ⟨⟨rfl, rfl⟩, ⟨rfl, rfl⟩, trivial⟩) ?_; (conv => whnf))
      | (refine CALL0.cutBy lvChosen _ _ _ _ _ (leL_refl _) (hb ..) rfl ?_; conv => whnf)
      | (refine CALL0.mk _ _ _ _ _ (leL_refl _) (hb ..) rfl ?_; conv => whnf)
      | (refine CALLQ.mk _ _ _ (leL_refl _) (hb ..) rfl ?_; conv => whnf)
    exact ⟨rfl, rfl⟩
end Go.Proofs.YtllmejkmogepjaaDoor.Ix

/-
  Ix36: the cells of a row that is written in, one by one.
-/
namespace Go.Proofs.YtllmejkmogepjaaDoor.Ix
set_option linter.unusedVariables false

theorem flatR_get {e n : Nat} {f : Nat → List IV} {i j : Nat} {x : IV} (hi : i < n) (hj : j < e) (hx : (f i)[j]? = some x) : (flatR e n f)[i * e + j]? = some x := by
  have hlt : i * e + j < n * e := by
    have := Nat.mul_le_mul_right e (show i + 1 ≤ n by omega)
    rw [Nat.add_mul] at this; omega
  have he : 0 < e := by omega
  have e1 : (i * e + j) / e = i := by rw [Nat.mul_comm, Nat.mul_add_div he, Nat.div_eq_of_lt hj]; rfl
  have e2 : (i * e + j) % e = j := by rw [Nat.mul_comm, Nat.mul_add_mod, Nat.mod_eq_of_lt hj]
  simp only [flatR, List.getElem?_map, List.getElem?_range hlt, Option.map_some, e1, e2, hx, Option.getD_some]

theorem flat_nth {e n : Nat} {f : Nat → List IV} {junk : List IV} {i j : Nat} {x : IV} (hi : i < n) (hj : j < e) (hx : (f i)[j]? = some x) : nthI (flatR e n f ++ junk) (i * e + j) = some x := by
  have hlt : i * e + j < n * e := by
    have := Nat.mul_le_mul_right e (show i + 1 ≤ n by omega)
    rw [Nat.add_mul] at this; omega
  rw [nthI_eq, List.getElem?_append_left (by rw [flatR_len]; exact hlt)]
  exact flatR_get hi hj hx

theorem lay_one : ∀ (l : List IV) (k : Nat) (v : IV), k < l.length → lay l k [v] = some (l.set k v)
  | [], k, v, h => by simp at h
  | x :: r, 0, v, _ => by
    have : lay r 0 [] = some r := by cases r <;> rfl
    simp [lay, this]
  | x :: r, k + 1, v, h => by
    simp only [lay]
    rw [lay_one r k v (by simpa using h)]
    rfl

/-- The row with one cell written. -/
def setRow (f : Nat → List IV) (i j : Nat) (v : IV) : Nat → List IV := fun k => if k = i then (f i).set j v else f k

theorem flatR_set {e n : Nat} {f : Nat → List IV} {i j : Nat} {v : IV} (hi : i < n) (hj : j < e) (hl : (f i).length = e) : (flatR e n f).set (i * e + j) v = flatR e n (setRow f i j v) := by
  have he : 0 < e := by omega
  apply List.ext_getElem?
  intro k
  rw [List.getElem?_set]
  by_cases hk : k < n * e
  · have hkn : k / e < n := (Nat.div_lt_iff_lt_mul he).2 hk
    have hke : k % e < e := Nat.mod_lt _ he
    have hdm : k / e * e + k % e = k := by rw [Nat.mul_comm]; exact Nat.div_add_mod k e
    have hR : (flatR e n (setRow f i j v))[k]? = some (((setRow f i j v) (k / e))[k % e]?.getD .dead) := by
      simp only [flatR, List.getElem?_map, List.getElem?_range hk, Option.map_some]
    rw [hR]
    by_cases hq : i * e + j = k
    · have e1 : k / e = i := by rw [← hq, Nat.mul_comm, Nat.mul_add_div he, Nat.div_eq_of_lt hj]; rfl
      have e2 : k % e = j := by rw [← hq, Nat.mul_comm, Nat.mul_add_mod, Nat.mod_eq_of_lt hj]
      rw [if_pos hq, if_pos (by rw [flatR_len, hq]; exact hk), e1, e2]
      simp only [setRow, if_true]
      rw [List.getElem?_set_self (by omega)]
      rfl
    · rw [if_neg hq]
      simp only [flatR, List.getElem?_map, List.getElem?_range hk, Option.map_some]
      by_cases hki : k / e = i
      · have hjk : j ≠ k % e := fun h => hq (by rw [← hki, h]; exact hdm)
        simp only [setRow, if_pos hki]
        rw [List.getElem?_set_ne hjk, hki]
      · simp only [setRow, if_neg hki]
  · have h1 : (flatR e n f)[k]? = none := List.getElem?_eq_none (by rw [flatR_len]; omega)
    have h2 : (flatR e n (setRow f i j v))[k]? = none := List.getElem?_eq_none (by rw [flatR_len]; omega)
    rw [h1, h2]
    split
    · split
      · rename_i hq hlt
        rw [flatR_len, hq] at hlt
        omega
      · rfl
    · rfl

theorem flat_lay {e n : Nat} {f : Nat → List IV} {junk : List IV} {i j : Nat} {v : IV} (hi : i < n) (hj : j < e) (hl : (f i).length = e) : lay (flatR e n f ++ junk) (i * e + j) [v] = some (flatR e n (setRow f i j v) ++ junk) := by
  have hlt : i * e + j < n * e := by
    have := Nat.mul_le_mul_right e (show i + 1 ≤ n by omega)
    rw [Nat.add_mul] at this; omega
  rw [lay_one _ _ _ (by rw [List.length_append, flatR_len]; omega), List.set_append_left _ _ (by rw [flatR_len]; exact hlt), flatR_set hi hj hl]

theorem hasTagL_of {t : Nat} : ∀ {l : List IV}, (∀ x ∈ l, hasTag t x = false) → hasTagL t l = false
  | [], _ => by simp [hasTagL]
  | x :: r, h => by
    simp only [hasTagL, Bool.or_eq_false_iff]
    exact ⟨h x (by simp), hasTagL_of fun y hy => h y (by simp [hy])⟩

theorem allInt_tag {t : Nat} : ∀ {l : List IV}, allInt l = true → ∀ x ∈ l, hasTag t x = false
  | .int k v :: r, h, x, hx => by
    simp only [List.mem_cons] at hx
    rcases hx with rfl | hx
    · simp [hasTag]
    · exact allInt_tag (by simpa [allInt] using h) x hx

theorem flat_tag {t e n m : Nat} {f : Nat → List IV} (hi : ∀ i, i < n → allInt (f i) = true) : hasTagL t (flatR e n f ++ List.replicate m .dead) = false := by
  refine hasTagL_of fun x hx => ?_
  rw [List.mem_append] at hx
  rcases hx with hx | hx
  · simp only [flatR, List.mem_map, List.mem_range] at hx
    obtain ⟨k, hk, rfl⟩ := hx
    have he : 0 < e := by
      rcases Nat.eq_zero_or_pos e with h | h
      · rw [h, Nat.mul_zero] at hk; omega
      · exact h
    have hkn : k / e < n := (Nat.div_lt_iff_lt_mul he).2 hk
    cases hq : (f (k / e))[k % e]? with
    | none => simp [hasTag]
    | some y =>
      have := allInt_tag (t := t) (hi _ hkn) y (List.mem_of_getElem? hq)
      simpa using this
  · rw [List.mem_replicate] at hx
    rw [hx.2]
    simp [hasTag]

theorem clL_of {t : List Nat} : ∀ {l : List IV}, (∀ x ∈ l, clV t x = true) → clL t l = true
  | [], _ => by simp [clL]
  | x :: r, h => by
    simp only [clL, Bool.and_eq_true]
    exact ⟨h x (by simp), clL_of fun y hy => h y (by simp [hy])⟩

theorem allInt_cl {t : List Nat} : ∀ {l : List IV}, allInt l = true → ∀ x ∈ l, clV t x = true
  | .int k v :: r, h, x, hx => by
    simp only [List.mem_cons] at hx
    rcases hx with rfl | hx
    · simp [clV]
    · exact allInt_cl (by simpa [allInt] using h) x hx

theorem flat_cl {t : List Nat} {e n m : Nat} {f : Nat → List IV} (hi : ∀ i, i < n → allInt (f i) = true) : clL t (flatR e n f ++ List.replicate m .dead) = true := by
  refine clL_of fun x hx => ?_
  rw [List.mem_append] at hx
  rcases hx with hx | hx
  · simp only [flatR, List.mem_map, List.mem_range] at hx
    obtain ⟨k, hk, rfl⟩ := hx
    have he : 0 < e := by
      rcases Nat.eq_zero_or_pos e with h | h
      · rw [h, Nat.mul_zero] at hk; omega
      · exact h
    have hkn : k / e < n := (Nat.div_lt_iff_lt_mul he).2 hk
    cases hq : (f (k / e))[k % e]? with
    | none => simp [clV]
    | some y =>
      have := allInt_cl (t := t) (hi _ hkn) y (List.mem_of_getElem? hq)
      simpa using this
  · rw [List.mem_replicate] at hx
    rw [hx.2]
    simp [clV]

end Go.Proofs.YtllmejkmogepjaaDoor.Ix

/-
  Ix37: a row told as data again, its length known to be that of the row.
-/
namespace Go.Proofs.YtllmejkmogepjaaDoor.Ix
set_option linter.unusedVariables false

mutual
/-- All rows of 'd' have these lengths. -/
def rowV (d e n : Nat) : IV → Prop
  | .row c e' n' k' b' => match Nat.beq c d with
    | true => e' = e ∧ n' = n
    | false => True
  | .agg xs => rowVL d e n xs
  | .tup xs => rowVL d e n xs
  | .fn _ a c => rowVL d e n a ∧ rowVL d e n c
  | _ => True
def rowVL (d e n : Nat) : List IV → Prop
  | [] => True
  | x :: r => rowV d e n x ∧ rowVL d e n r
end
def rowT (d e n : Nat) : Tms → Prop
  | [] => True
  | (_, v) :: r => rowV d e n v ∧ rowT d e n r
def rowC (d e n : Nat) : Ces → Prop
  | [] => True
  | (i, c) :: r => match Nat.beq i d with
    | true => rowC d e n r
    | false => rowVL d e n c ∧ rowC d e n r

mutual
def thwV (d : Nat) (g : Nat → List IV) : IV → IV
  | .ptr 0 c off => match Nat.beq c d with
    | true => .dead
    | false => .ptr 0 c off
  | .row c e' n' k' b' => match Nat.beq c d with
    | true => .lst none e' n' g
    | false => .row c e' n' k' b'
  | .agg xs => .agg (thwVL d g xs)
  | .tup xs => .tup (thwVL d g xs)
  | .fn f a c => .fn f (thwVL d g a) (thwVL d g c)
  | v => v
def thwVL (d : Nat) (g : Nat → List IV) : List IV → List IV
  | [] => []
  | x :: r => thwV d g x :: thwVL d g r
end
def thwT (d : Nat) (g : Nat → List IV) : Tms → Tms
  | [] => []
  | (i, v) :: r => (i, thwV d g v) :: thwT d g r
def thwC (d : Nat) (g : Nat → List IV) : Ces → Ces
  | [] => []
  | (i, c) :: r => match Nat.beq i d with
    | true => thwC d g r
    | false => (i, thwVL d g c) :: thwC d g r

mutual
theorem thwV_eq (d e n : Nat) (g : Nat → List IV) : ∀ v, rowV d e n v → frzV d e n g v = thwV d g v
  | .ptr l c off, _ => by
    cases l with
    | zero => simp only [frzV, thwV]; cases Nat.beq c d <;> rfl
    | succ l => simp only [frzV, thwV]
  | .row c e' n' k' b', h => by
    simp only [rowV] at h
    simp only [frzV, thwV]
    cases hc : Nat.beq c d with
    | false => rfl
    | true =>
      rw [hc] at h
      obtain ⟨rfl, rfl⟩ := h
      simp
  | .agg xs, h => by
    simp only [rowV] at h
    simp only [frzV, thwV, thwVL_eq d e n g xs h]
  | .tup xs, h => by
    simp only [rowV] at h
    simp only [frzV, thwV, thwVL_eq d e n g xs h]
  | .fn f a c, h => by
    simp only [rowV] at h
    simp only [frzV, thwV, thwVL_eq d e n g a h.1, thwVL_eq d e n g c h.2]
  | .int _ _, _ => rfl
  | .bool _, _ => rfl
  | .str _, _ => rfl
  | .lit _, _ => rfl
  | .nilS, _ => rfl
  | .lst _ _ _ _, _ => rfl
  | .vptr _ _ _ _ _, _ => rfl
  | .raw _ _ _, _ => rfl
  | .dead, _ => rfl
theorem thwVL_eq (d e n : Nat) (g : Nat → List IV) : ∀ l, rowVL d e n l → frzVL d e n g l = thwVL d g l
  | [], _ => rfl
  | x :: r, h => by
    simp only [rowVL] at h
    simp only [frzVL, thwVL, thwV_eq d e n g x h.1, thwVL_eq d e n g r h.2]
end
theorem thwT_eq (d e n : Nat) (g : Nat → List IV) : ∀ l, rowT d e n l → frzT d e n g l = thwT d g l
  | [], _ => rfl
  | (i, v) :: r, h => by
    simp only [rowT] at h
    simp only [frzT, thwT, thwV_eq d e n g v h.1, thwT_eq d e n g r h.2]
theorem thwC_eq (d e n : Nat) (g : Nat → List IV) : ∀ l, rowC d e n l → frzC d e n g l = thwC d g l
  | [], _ => rfl
  | (i, c) :: r, h => by
    simp only [rowC] at h
    simp only [frzC, thwC]
    cases hc : Nat.beq i d with
    | true =>
      rw [hc] at h
      simp only [thwC_eq d e n g r h]
    | false =>
      rw [hc] at h
      simp only [thwVL_eq d e n g c h.1, thwC_eq d e n g r h.2]

theorem DRAW.mkR {C : Con} {Γ : Env} {all : List Oper} {K : St → Prop} {S : St} (d e n : Nat) (g : Nat → List IV) (junk : List IV) (hc : lookC S.ce d = some (flatR e n g ++ junk)) (hg : ∀ i, i < n → (g i).length = e ∧ allInt (g i) = true) (p : Nat) (h : drawOK all p = true)
    (ht : rowT d e n S.tm) (hce : rowC d e n S.ce) (hk : fps (thwT d g S.tm) fun tm => fcs (thwC d g S.ce) fun ce => drawn C Γ all p K ⟨tm, ce, S.up⟩) : DRAW C Γ all K S := by
  refine .mkF d e n g junk hc hg p h ?_
  rw [thwT_eq d e n g _ ht, thwC_eq d e n g _ hce]
  exact hk
end Go.Proofs.YtllmejkmogepjaaDoor.Ix

/-
  Lc2: RotorChosen where there is a best pitch: the pitches one by one.
-/
namespace Go.Proofs.YtllmejkmogepjaaDoor.Ix
open Go.Proofs
set_option maxRecDepth 100000
set_option linter.unusedVariables false
set_option linter.unusedSimpArgs false
variable {gl : Nat → IV}

theorem err_pos {b : Bl} (h : b.err = 0) : 0 < b.nr := by
  have h : bladeS b.nl b.lf b.nd b.df b.nr b.r1 b.r2 b.r3 b.r4 = 0 := h
  unfold bladeS at h
  rw [orE_zero, orE_zero, orE_zero] at h
  have h1 := h.2.1
  rcases Nat.eq_zero_or_pos b.nr with h2 | h2
  · rw [h2] at h1; cases h1
  · exact h2
theorem twist_rng {b : Bl} (h : b.err = 0) (i : Nat) (hi : i < b.nr) : -64 ≤ b.r3 i ∧ b.r3 i ≤ 64 := by
  have h : bladeS b.nl b.lf b.nd b.df b.nr b.r1 b.r2 b.r3 b.r4 = 0 := h
  unfold bladeS at h
  rw [orE_zero, orE_zero, orE_zero, firstS_zero] at h
  have k := h.2.2.2 i (by omega) (by omega)
  unfold ringAt ringS at k
  simp only [orE_zero, withinS_zero] at k
  exact k.1.2.2.1
def twF (b : Bl) (k i : Nat) : List IV := [.int .i64 (b.r1 i), .int .i64 (b.r2 i), .int .i64 (if i < k then b.r3 i - 1 else b.r3 i), .int .i64 (b.r4 i)]
theorem tw_nth {b : Bl} {i j : Nat} (hin : i < b.nr) : nthI (flatR 4 b.nr (twF b i) ++ List.replicate j .dead) ((i : Int).toNat * 4 + 2) = some (.int .i64 (b.r3 i)) := by
  rw [Int.toNat_natCast]
  exact flat_nth hin (by omega) (by simp [twF])
theorem tw_lay {b : Bl} {i j : Nat} (zB : b.err = 0) (hin : i < b.nr) : lay (flatR 4 b.nr (twF b i) ++ List.replicate j .dead) ((i : Int).toNat * 4 + 2) [.int .i64 (w64 (b.r3 i - 1))] = some (flatR 4 b.nr (twF b (i + 1)) ++ List.replicate j .dead) := by
  rw [Int.toNat_natCast, flat_lay (e := 4) (f := twF b i) (v := .int .i64 (w64 (b.r3 i - 1))) (j := 2) hin (by omega) rfl]
  refine congrArg (fun g => some (flatR 4 b.nr g ++ List.replicate j IV.dead)) ?_
  rw [w64, wrap_in (by have := twist_rng zB i hin; omega) (by have := twist_rng zB i hin; omega)]
  funext z
  unfold setRow
  by_cases hz : z = i
  · subst hz; simp [twF]
  · rw [if_neg hz]
    unfold twF
    by_cases hz2 : z < i
    · rw [if_pos hz2, if_pos (by omega)]
    · rw [if_neg hz2, if_neg (by omega)]
theorem tq_some {b : Bl} {f : Fl} {n : Nat} {t : Int × Int} (h : b.tq f n = some t) : allBr b f 0 ∧ b.T f n = t := by
  unfold Bl.tq at h
  by_cases q : allBr b f n
  · rw [if_pos q] at h
    exact ⟨(allBr_iff 0 n).2 q, Option.some.inj h⟩
  · rw [if_neg q] at h
    cases h

/-- What is read behind each call. -/
def lvChosen2 : List (Nat × List Nat) := [(20, [3, 4, 5, 6, 7, 8, 9, 10, 11, 20]), (25, [3, 4, 5, 6, 7, 8, 9, 10, 11, 22, 25]), (30, [3, 4, 5, 6, 7, 8, 9, 10, 11, 28, 30]), (35, [3, 4, 5, 6, 7, 8, 9, 10, 11, 33, 35]), (53, [3, 4, 5, 6, 7, 8, 9, 10, 11, 48, 53]), (67, [3, 4, 5, 6, 7, 8, 9, 10, 11, 64, 67]), (70, [3, 4, 5, 6, 7, 8, 9, 10, 11, 70]), (73, [3, 4, 5, 6, 7, 8, 9, 10, 11, 73]), (81, [3, 4, 5, 6, 7, 8, 9, 10, 11, 81]), (87, [3, 4, 5, 6, 7, 8, 9, 10, 11, 87]), (97, [3, 4, 5, 6, 7, 8, 9, 10, 11, 97]), (156, [3, 4, 5, 6, 7, 8, 9, 10, 11, 12, 14, 16, 156]), (165, [3, 4, 5, 6, 7, 8, 9, 10, 11, 12, 14, 16, 165]), (259, [3, 4, 5, 6, 7, 8, 9, 10, 11, 12, 14, 16, 259]), (260, [3, 4, 5, 6, 7, 8, 9, 10, 11, 12, 14, 16, 260]), (286, [4, 5, 6, 7, 8, 286]), (296, [6, 7, 8, 296])]
set_option maxHeartbeats 8000000 in
theorem chosen_try (up : List Ces) (hr : gl g_rotor_roots = rootsI) (hp : gl g_internal_strconv_uint64pow10 = powI) (b : Bl) (f : Fl) (x y m : Int) (n : Nat) (hs : lightB b f = true) (zB : b.err = 0) (zF : f.err = 0) (hn5 : n + 1 ≤ 5)
    (p1 : -64 ≤ x) (p2 : x ≤ y) (p3 : y ≤ 64) (q3 : decide (w64 (y - x) > 7) = false) (zP : pitchErr x y = 0) (zM : withinS m (-1152921504606846976) 1152921504606846976 = 0) (N : Nat) (hN : y + 1 - x = N) (d : Int) (hd : d = ((n + 1 : Nat) : Int))
    (P T1 T2 L : Int) (hP1 : x ≤ P) (hP2 : P ≤ y) (hL1 : x ≤ L) (hL2 : L ≤ y)
    (hPn : ∀ k : Nat, k < N → b.tq (f.at (x + k)) n = none → (x + k == P) = false) (hLn : ∀ k : Nat, k < N → b.tq (f.at (x + k)) n = none → (x + k == L) = false)
    (hbest : ∀ (k : Nat) m1 m2, k < N → b.tq (f.at (x + k)) n = some (m1, m2) → decide (m1 > T1) = false ∧ (x + k < P → (m1 == T1) = false) ∧ (x + k = P → m1 = T1 ∧ m2 = T2))
    (hlim : ∀ (k : Nat) m1 m2, k < N → b.tq (f.at (x + k)) n = some (m1, m2) → (x + k < L → decide (m2 ≤ m) = false) ∧ (x + k = L → decide (m2 ≤ m) = true))
    (hTw : y < 64 → (∀ z, z < b.nr → b.r3 z ≠ -64) → bestR b.tw f d (x + 1) (y + 1) = .tup [.int .i64 (P + 1), .agg [.int .i64 T1, .int .i64 T2], .int .i64 0])
    (eB : bestR b f d x y = .tup [.int .i64 P, .agg [.int .i64 T1, .int .i64 T2], .int .i64 0]) (eL : limR b f d x y m = .tup [.int .i64 L, .int .i64 0]) :
    Cs gl n_nacellelaw03_RotorChosen up [b.iv, f.iv, .agg [.int .i64 d, .int .i64 x, .int .i64 y, .int .i64 m]] (.bool true) up := by
  have hsh : b.short = true := by
    unfold lightB at hs
    simp only [Bool.and_eq_true] at hs
    exact hs.1
  obtain ⟨hl, hdd, hnn⟩ := short_le hsh
  have hpos : 0 < b.nr := err_pos zB
  have hA := fun up => c_awake (gl := gl) up hr hp
  have hS := fun up => c_light (gl := gl) up b f
  have hE := fun up => c_rCheckBlade (gl := gl) up b
  have hFl := fun up => c_rCheckFlow (gl := gl) up f.w f.s f.p
  have hCP := fun up => c_rCheckPitches (gl := gl) up x y
  have hCR := fun up => c_CheckRange (gl := gl) up m (-1152921504606846976) 1152921504606846976
  rw [hs] at hS
  rw [zB] at hE
  have zF' : flowS f.w f.s f.p = 0 := zF
  rw [zF'] at hFl
  rw [zP] at hCP
  rw [zM] at hCR
  have hb := fun up => c_blade (gl := gl) up b hl hdd hnn
  have hB := fun up => c_Best (gl := gl) up b f d x y
  have hL := fun up => c_Limit (gl := gl) up b f d x y m
  rw [eB] at hB
  rw [eL] at hL
  have q1 : decide (d < 1) = false := decide_eq_false (by omega)
  have q2 : decide (d > 5) = false := decide_eq_false (by omega)
  have hT0 : ∀ up (k : Nat), k < N → b.tq (f.at (x + k)) n = none → Cs gl n_rotor_Torque up [b.iv, flowI f.w f.s (x + k), .int .i64 d] (.tup [.agg [.int .i64 0, .int .i64 0], .int .i64 7]) up := fun up k hk hq => by
    have h := c_Torque (gl := gl) up b (f.at (x + k)) d
    rw [hd, torR_ok ⟨zB, Fl.at_err zF (by omega) (by omega)⟩ (by omega), if_neg (tq_none hq), ← hd] at h
    exact h
  have hT1 : ∀ up (k : Nat) (t : Int × Int), k < N → b.tq (f.at (x + k)) n = some t → Cs gl n_rotor_Torque up [b.iv, flowI f.w f.s (x + k), .int .i64 d] (.tup [.agg [.int .i64 t.1, .int .i64 t.2], .int .i64 0]) up := fun up k t hk hq => by
    have h := c_Torque (gl := gl) up b (f.at (x + k)) d
    obtain ⟨hq1, hq2⟩ := tq_some hq
    rw [hd, torR_ok ⟨zB, Fl.at_err zF (by omega) (by omega)⟩ (by omega), if_pos hq1, ← hd] at h
    rw [hq2] at h
    exact h
  have qp1 : decide (P < x) = false := decide_eq_false (by omega)
  have qp2 : decide (P > y) = false := decide_eq_false (by omega)
  clear eB eL
  refine mk h_nacellelaw03_RotorChosen rfl rfl ?_
  conv => whnf
  repeat first
    | (show DRAW _ _ _ _ _; (first | refine .mk 0 (by decide +kernel) ?_ | refine .mk 1 (by decide +kernel) ?_ | refine .mk 2 (by decide +kernel) ?_ | refine .mk 3 (by decide +kernel) ?_ | refine .mk 4 (by decide +kernel) ?_ | refine .mk 5 (by decide +kernel) ?_ | refine .mk 6 (by decide +kernel) ?_ | refine .mk 7 (by decide +kernel) ?_ | refine .mk 8 (by decide +kernel) ?_ | refine .mk 9 (by decide +kernel) ?_ | refine .mk 10 (by decide +kernel) ?_ | refine .mk 11 (by decide +kernel) ?_ | refine .mk 12 (by decide +kernel) ?_ | refine .mk 13 (by decide +kernel) ?_ | refine .mk 14 (by decide +kernel) ?_ | refine .mk 15 (by decide +kernel) ?_ | refine .mk 16 (by decide +kernel) ?_ | refine .mk 17 (by decide +kernel) ?_ | refine .mk 18 (by decide +kernel) ?_ | refine .mk 19 (by decide +kernel) ?_ | refine .mk 20 (by decide +kernel) ?_ | refine .mk 21 (by decide +kernel) ?_ | refine .mk 22 (by decide +kernel) ?_ | refine .mk 23 (by decide +kernel) ?_ | refine .mk 24 (by decide +kernel) ?_ | refine .mk 25 (by decide +kernel) ?_ | refine .mk 26 (by decide +kernel) ?_ | refine .mk 27 (by decide +kernel) ?_ | refine .mk 28 (by decide +kernel) ?_ | refine .mk 29 (by decide +kernel) ?_ | refine .mk 30 (by decide +kernel) ?_ | refine .mk 31 (by decide +kernel) ?_ | refine .mk 32 (by decide +kernel) ?_ | refine .mk 33 (by decide +kernel) ?_ | refine .mk 34 (by decide +kernel) ?_ | refine .mk 35 (by decide +kernel) ?_ | refine .mk 36 (by decide +kernel) ?_ | refine .mk 37 (by decide +kernel) ?_ | refine .mk 38 (by decide +kernel) ?_ | refine .mk 39 (by decide +kernel) ?_ | refine .mk 40 (by decide +kernel) ?_ | refine .mk 41 (by decide +kernel) ?_); (conv => whnf))
    | (refine HOLD.mk (by first | exact trivial | exact ⟨⟨rfl, rfl⟩, trivial⟩ | exact ⟨⟨rfl, rfl⟩, ⟨rfl, rfl⟩, trivial⟩) ?_; (conv => whnf))
    | (refine CALL0.cutBy lvChosen2 _ _ _ _ _ (leL_refl _) (hA ..) rfl ?_; conv => whnf)
    | (refine CALL0.mk _ _ _ _ _ (leL_refl _) (hA ..) rfl ?_; conv => whnf)
    | (refine CALLQ.mk _ _ _ (leL_refl _) (hA ..) rfl ?_; conv => whnf)
    | (refine CALL0.cutBy lvChosen2 _ _ _ _ _ (leL_refl _) (hS ..) rfl ?_; conv => whnf)
    | (refine CALL0.mk _ _ _ _ _ (leL_refl _) (hS ..) rfl ?_; conv => whnf)
    | (refine CALLQ.mk _ _ _ (leL_refl _) (hS ..) rfl ?_; conv => whnf)
    | (refine CALL0.cutBy lvChosen2 _ _ _ _ _ (leL_refl _) (hE ..) rfl ?_; conv => whnf)
    | (refine CALL0.mk _ _ _ _ _ (leL_refl _) (hE ..) rfl ?_; conv => whnf)
    | (refine CALLQ.mk _ _ _ (leL_refl _) (hE ..) rfl ?_; conv => whnf)
    | (refine CALL0.cutBy lvChosen2 _ _ _ _ _ (leL_refl _) (hFl ..) rfl ?_; conv => whnf)
    | (refine CALL0.mk _ _ _ _ _ (leL_refl _) (hFl ..) rfl ?_; conv => whnf)
    | (refine CALLQ.mk _ _ _ (leL_refl _) (hFl ..) rfl ?_; conv => whnf)
  split
  · rename_i h
    exact Bool.noConfusion ((q1).symm.trans h)
  rename_i hN
  clear hN
  conv => whnf
  split
  · rename_i h
    exact Bool.noConfusion ((q2).symm.trans h)
  rename_i hN
  clear hN
  conv => whnf
  repeat first
    | (show DRAW _ _ _ _ _; (first | refine .mk 0 (by decide +kernel) ?_ | refine .mk 1 (by decide +kernel) ?_ | refine .mk 2 (by decide +kernel) ?_ | refine .mk 3 (by decide +kernel) ?_ | refine .mk 4 (by decide +kernel) ?_ | refine .mk 5 (by decide +kernel) ?_ | refine .mk 6 (by decide +kernel) ?_ | refine .mk 7 (by decide +kernel) ?_ | refine .mk 8 (by decide +kernel) ?_ | refine .mk 9 (by decide +kernel) ?_ | refine .mk 10 (by decide +kernel) ?_ | refine .mk 11 (by decide +kernel) ?_ | refine .mk 12 (by decide +kernel) ?_ | refine .mk 13 (by decide +kernel) ?_ | refine .mk 14 (by decide +kernel) ?_ | refine .mk 15 (by decide +kernel) ?_ | refine .mk 16 (by decide +kernel) ?_ | refine .mk 17 (by decide +kernel) ?_ | refine .mk 18 (by decide +kernel) ?_ | refine .mk 19 (by decide +kernel) ?_ | refine .mk 20 (by decide +kernel) ?_ | refine .mk 21 (by decide +kernel) ?_ | refine .mk 22 (by decide +kernel) ?_ | refine .mk 23 (by decide +kernel) ?_ | refine .mk 24 (by decide +kernel) ?_ | refine .mk 25 (by decide +kernel) ?_ | refine .mk 26 (by decide +kernel) ?_ | refine .mk 27 (by decide +kernel) ?_ | refine .mk 28 (by decide +kernel) ?_ | refine .mk 29 (by decide +kernel) ?_ | refine .mk 30 (by decide +kernel) ?_ | refine .mk 31 (by decide +kernel) ?_ | refine .mk 32 (by decide +kernel) ?_ | refine .mk 33 (by decide +kernel) ?_ | refine .mk 34 (by decide +kernel) ?_ | refine .mk 35 (by decide +kernel) ?_ | refine .mk 36 (by decide +kernel) ?_ | refine .mk 37 (by decide +kernel) ?_ | refine .mk 38 (by decide +kernel) ?_ | refine .mk 39 (by decide +kernel) ?_ | refine .mk 40 (by decide +kernel) ?_ | refine .mk 41 (by decide +kernel) ?_); (conv => whnf))
    | (refine HOLD.mk (by first | exact trivial | exact ⟨⟨rfl, rfl⟩, trivial⟩ | exact ⟨⟨rfl, rfl⟩, ⟨rfl, rfl⟩, trivial⟩) ?_; (conv => whnf))
    | (refine CALL0.cutBy lvChosen2 _ _ _ _ _ (leL_refl _) (hCP ..) rfl ?_; conv => whnf)
    | (refine CALL0.mk _ _ _ _ _ (leL_refl _) (hCP ..) rfl ?_; conv => whnf)
    | (refine CALLQ.mk _ _ _ (leL_refl _) (hCP ..) rfl ?_; conv => whnf)
  split
  · rename_i h
    exact Bool.noConfusion ((q3).symm.trans h)
  rename_i hN
  clear hN
  conv => whnf
  repeat first
    | (show DRAW _ _ _ _ _; (first | refine .mk 0 (by decide +kernel) ?_ | refine .mk 1 (by decide +kernel) ?_ | refine .mk 2 (by decide +kernel) ?_ | refine .mk 3 (by decide +kernel) ?_ | refine .mk 4 (by decide +kernel) ?_ | refine .mk 5 (by decide +kernel) ?_ | refine .mk 6 (by decide +kernel) ?_ | refine .mk 7 (by decide +kernel) ?_ | refine .mk 8 (by decide +kernel) ?_ | refine .mk 9 (by decide +kernel) ?_ | refine .mk 10 (by decide +kernel) ?_ | refine .mk 11 (by decide +kernel) ?_ | refine .mk 12 (by decide +kernel) ?_ | refine .mk 13 (by decide +kernel) ?_ | refine .mk 14 (by decide +kernel) ?_ | refine .mk 15 (by decide +kernel) ?_ | refine .mk 16 (by decide +kernel) ?_ | refine .mk 17 (by decide +kernel) ?_ | refine .mk 18 (by decide +kernel) ?_ | refine .mk 19 (by decide +kernel) ?_ | refine .mk 20 (by decide +kernel) ?_ | refine .mk 21 (by decide +kernel) ?_ | refine .mk 22 (by decide +kernel) ?_ | refine .mk 23 (by decide +kernel) ?_ | refine .mk 24 (by decide +kernel) ?_ | refine .mk 25 (by decide +kernel) ?_ | refine .mk 26 (by decide +kernel) ?_ | refine .mk 27 (by decide +kernel) ?_ | refine .mk 28 (by decide +kernel) ?_ | refine .mk 29 (by decide +kernel) ?_ | refine .mk 30 (by decide +kernel) ?_ | refine .mk 31 (by decide +kernel) ?_ | refine .mk 32 (by decide +kernel) ?_ | refine .mk 33 (by decide +kernel) ?_ | refine .mk 34 (by decide +kernel) ?_ | refine .mk 35 (by decide +kernel) ?_ | refine .mk 36 (by decide +kernel) ?_ | refine .mk 37 (by decide +kernel) ?_ | refine .mk 38 (by decide +kernel) ?_ | refine .mk 39 (by decide +kernel) ?_ | refine .mk 40 (by decide +kernel) ?_ | refine .mk 41 (by decide +kernel) ?_); (conv => whnf))
    | (refine HOLD.mk (by first | exact trivial | exact ⟨⟨rfl, rfl⟩, trivial⟩ | exact ⟨⟨rfl, rfl⟩, ⟨rfl, rfl⟩, trivial⟩) ?_; (conv => whnf))
    | (refine CALL0.cutBy lvChosen2 _ _ _ _ _ (leL_refl _) (hCR ..) rfl ?_; conv => whnf)
    | (refine CALL0.mk _ _ _ _ _ (leL_refl _) (hCR ..) rfl ?_; conv => whnf)
    | (refine CALLQ.mk _ _ _ (leL_refl _) (hCR ..) rfl ?_; conv => whnf)
    | (refine CALL0.cutBy lvChosen2 _ _ _ _ _ (leL_refl _) (hA ..) rfl ?_; conv => whnf)
    | (refine CALL0.mk _ _ _ _ _ (leL_refl _) (hA ..) rfl ?_; conv => whnf)
    | (refine CALLQ.mk _ _ _ (leL_refl _) (hA ..) rfl ?_; conv => whnf)
  repeat first
    | (show DRAW _ _ _ _ _; (first | refine .mk 0 (by decide +kernel) ?_ | refine .mk 1 (by decide +kernel) ?_ | refine .mk 2 (by decide +kernel) ?_ | refine .mk 3 (by decide +kernel) ?_ | refine .mk 4 (by decide +kernel) ?_ | refine .mk 5 (by decide +kernel) ?_ | refine .mk 6 (by decide +kernel) ?_ | refine .mk 7 (by decide +kernel) ?_ | refine .mk 8 (by decide +kernel) ?_ | refine .mk 9 (by decide +kernel) ?_ | refine .mk 10 (by decide +kernel) ?_ | refine .mk 11 (by decide +kernel) ?_ | refine .mk 12 (by decide +kernel) ?_ | refine .mk 13 (by decide +kernel) ?_ | refine .mk 14 (by decide +kernel) ?_ | refine .mk 15 (by decide +kernel) ?_ | refine .mk 16 (by decide +kernel) ?_ | refine .mk 17 (by decide +kernel) ?_ | refine .mk 18 (by decide +kernel) ?_ | refine .mk 19 (by decide +kernel) ?_ | refine .mk 20 (by decide +kernel) ?_ | refine .mk 21 (by decide +kernel) ?_ | refine .mk 22 (by decide +kernel) ?_ | refine .mk 23 (by decide +kernel) ?_ | refine .mk 24 (by decide +kernel) ?_ | refine .mk 25 (by decide +kernel) ?_ | refine .mk 26 (by decide +kernel) ?_ | refine .mk 27 (by decide +kernel) ?_ | refine .mk 28 (by decide +kernel) ?_ | refine .mk 29 (by decide +kernel) ?_ | refine .mk 30 (by decide +kernel) ?_ | refine .mk 31 (by decide +kernel) ?_ | refine .mk 32 (by decide +kernel) ?_ | refine .mk 33 (by decide +kernel) ?_ | refine .mk 34 (by decide +kernel) ?_ | refine .mk 35 (by decide +kernel) ?_ | refine .mk 36 (by decide +kernel) ?_ | refine .mk 37 (by decide +kernel) ?_ | refine .mk 38 (by decide +kernel) ?_ | refine .mk 39 (by decide +kernel) ?_ | refine .mk 40 (by decide +kernel) ?_ | refine .mk 41 (by decide +kernel) ?_); (conv => whnf))
    | (refine HOLD.mk (by first | exact trivial | exact ⟨⟨rfl, rfl⟩, trivial⟩ | exact ⟨⟨rfl, rfl⟩, ⟨rfl, rfl⟩, trivial⟩) ?_; (conv => whnf))
    | (refine CALL0.cutBy lvChosen2 _ _ _ _ _ (leL_refl _) (hb ..) rfl ?_; conv => whnf)
    | (refine CALL0.mk _ _ _ _ _ (leL_refl _) (hb ..) rfl ?_; conv => whnf)
    | (refine CALLQ.mk _ _ _ (leL_refl _) (hb ..) rfl ?_; conv => whnf)
    | (refine CALL0.cutBy lvChosen2 _ _ _ _ _ (leL_refl _) (hB ..) rfl ?_; conv => whnf)
    | (refine CALL0.mk _ _ _ _ _ (leL_refl _) (hB ..) rfl ?_; conv => whnf)
    | (refine CALLQ.mk _ _ _ (leL_refl _) (hB ..) rfl ?_; conv => whnf)
    | (refine CALL0.cutBy lvChosen2 _ _ _ _ _ (leL_refl _) (hL ..) rfl ?_; conv => whnf)
    | (refine CALL0.mk _ _ _ _ _ (leL_refl _) (hL ..) rfl ?_; conv => whnf)
    | (refine CALLQ.mk _ _ _ (leL_refl _) (hL ..) rfl ?_; conv => whnf)
  have ql1 : decide (L < x) = false := decide_eq_false (by omega)
  have ql2 : decide (L > y) = false := decide_eq_false (by omega)
  split
  · rename_i h
    exact Bool.noConfusion ((qp1).symm.trans h)
  rename_i hN
  clear hN
  conv => whnf
  split
  · rename_i h
    exact Bool.noConfusion ((qp2).symm.trans h)
  rename_i hN
  clear hN
  conv => whnf
  split
  · rename_i h
    exact Bool.noConfusion ((ql1).symm.trans h)
  rename_i hN
  clear hN
  conv => whnf
  split
  · rename_i h
    exact Bool.noConfusion ((ql2).symm.trans h)
  rename_i hN
  clear hN
  conv => whnf
  refine .mk (α := {k : Nat // k ≤ N}) (fun k => ⟨[(12, .int .i64 (x + k.1)), (7, .int .i64 P), (9, .int .i64 0), (10, .int .i64 L), (11, .int .i64 0), (3, .ptr 0 3 0), (4, .ptr 0 4 0), (5, .ptr 0 5 0), (8, .ptr 0 8 0), (6, .bool false)],
    [(8, [.int .i64 T1, .int .i64 T2]), (5, [.int .i64 d, .int .i64 x, .int .i64 y, .int .i64 m]), (4, [.int .i64 f.w, .int .i64 f.s, .int .i64 f.p]),
     (3, [.lst none 1 b.nl fun i => [.int .i64 (b.lf i)], .lst none 1 b.nd fun i => [.int .i64 (b.df i)], .lst none 4 b.nr fun i => [.int .i64 (b.r1 i), .int .i64 (b.r2 i), .int .i64 (b.r3 i), .int .i64 (b.r4 i)]])], up⟩) (fun k => N - k.1) ⟨0, Nat.zero_le _⟩ ⟨?_, ?_, rfl, rfl⟩ ?_
  · exact ⟨leV_int (by show x = x + ((0 : Nat) : Int); omega), leV_refl _, leV_refl _, leV_refl _, leV_refl _, leV_refl _, leV_refl _, leV_refl _, leV_refl _, leV_refl _, trivial⟩
  · exact ⟨leL_refl _, leL_refl _, leL_refl _, leL_refl _, trivial⟩
  rintro ⟨k, hk⟩
  have hw : w64 (x + k + 1) = x + ((k + 1 : Nat) : Int) := by rw [w64, wrap_in] <;> omega
  by_cases hlt : k < N
  · have q : decide (x + k ≤ y) = true := decide_eq_true (by omega)
    cases hq : b.tq (f.at (x + k)) n with
    | none =>
      have hT' := fun up => hT0 up k hlt hq
      have c1 := hPn k hlt hq
      have c2 := hLn k hlt hq
      conv => whnf
      split
      rotate_left
      · rename_i h
        exact Bool.noConfusion ((q).symm.trans h)
      rename_i hN
      clear hN
      conv => whnf
      repeat first
        | (show DRAW _ _ _ _ _; (first | refine .mk 0 (by decide +kernel) ?_ | refine .mk 1 (by decide +kernel) ?_ | refine .mk 2 (by decide +kernel) ?_ | refine .mk 3 (by decide +kernel) ?_ | refine .mk 4 (by decide +kernel) ?_ | refine .mk 5 (by decide +kernel) ?_ | refine .mk 6 (by decide +kernel) ?_ | refine .mk 7 (by decide +kernel) ?_ | refine .mk 8 (by decide +kernel) ?_ | refine .mk 9 (by decide +kernel) ?_ | refine .mk 10 (by decide +kernel) ?_ | refine .mk 11 (by decide +kernel) ?_ | refine .mk 12 (by decide +kernel) ?_ | refine .mk 13 (by decide +kernel) ?_ | refine .mk 14 (by decide +kernel) ?_ | refine .mk 15 (by decide +kernel) ?_ | refine .mk 16 (by decide +kernel) ?_ | refine .mk 17 (by decide +kernel) ?_ | refine .mk 18 (by decide +kernel) ?_ | refine .mk 19 (by decide +kernel) ?_ | refine .mk 20 (by decide +kernel) ?_ | refine .mk 21 (by decide +kernel) ?_ | refine .mk 22 (by decide +kernel) ?_ | refine .mk 23 (by decide +kernel) ?_ | refine .mk 24 (by decide +kernel) ?_ | refine .mk 25 (by decide +kernel) ?_ | refine .mk 26 (by decide +kernel) ?_ | refine .mk 27 (by decide +kernel) ?_ | refine .mk 28 (by decide +kernel) ?_ | refine .mk 29 (by decide +kernel) ?_ | refine .mk 30 (by decide +kernel) ?_ | refine .mk 31 (by decide +kernel) ?_ | refine .mk 32 (by decide +kernel) ?_ | refine .mk 33 (by decide +kernel) ?_ | refine .mk 34 (by decide +kernel) ?_ | refine .mk 35 (by decide +kernel) ?_ | refine .mk 36 (by decide +kernel) ?_ | refine .mk 37 (by decide +kernel) ?_ | refine .mk 38 (by decide +kernel) ?_ | refine .mk 39 (by decide +kernel) ?_ | refine .mk 40 (by decide +kernel) ?_ | refine .mk 41 (by decide +kernel) ?_); (conv => whnf))
        | (refine HOLD.mk (by first | exact trivial | exact ⟨⟨rfl, rfl⟩, trivial⟩ | exact ⟨⟨rfl, rfl⟩, ⟨rfl, rfl⟩, trivial⟩) ?_; (conv => whnf))
        | (refine CALL0.cutBy lvChosen2 _ _ _ _ _ (leL_refl _) (hb ..) rfl ?_; conv => whnf)
        | (refine CALL0.mk _ _ _ _ _ (leL_refl _) (hb ..) rfl ?_; conv => whnf)
        | (refine CALLQ.mk _ _ _ (leL_refl _) (hb ..) rfl ?_; conv => whnf)
        | (refine CALL0.cutBy lvChosen2 _ _ _ _ _ (leL_refl _) (hT' ..) rfl ?_; conv => whnf)
        | (refine CALL0.mk _ _ _ _ _ (leL_refl _) (hT' ..) rfl ?_; conv => whnf)
        | (refine CALLQ.mk _ _ _ (leL_refl _) (hT' ..) rfl ?_; conv => whnf)
      split
      · rename_i h
        exact Bool.noConfusion ((c1).symm.trans h)
      rename_i hN
      clear hN
      conv => whnf
      split
      · rename_i h
        exact Bool.noConfusion ((c2).symm.trans h)
      rename_i hN
      clear hN
      conv => whnf
      exact ⟨⟨k + 1, hlt⟩, ⟨⟨leV_int hw, leV_refl _, leV_refl _, leV_refl _, leV_refl _, leV_refl _, leV_refl _, leV_refl _, leV_refl _, leV_refl _, trivial⟩, ⟨leL_refl _, leL_refl _, leL_refl _, leL_refl _, trivial⟩, rfl, rfl⟩, (by show N - (k + 1) < N - k; omega)⟩
    | some t =>
      obtain ⟨m1, m2⟩ := t
      have hT' := fun up => hT1 up k _ hlt hq
      obtain ⟨c1, c2, c3⟩ := hbest k m1 m2 hlt hq
      obtain ⟨c4, c5⟩ := hlim k m1 m2 hlt hq
      conv => whnf
      split
      rotate_left
      · rename_i h
        exact Bool.noConfusion ((q).symm.trans h)
      rename_i hN
      clear hN
      conv => whnf
      repeat first
        | (show DRAW _ _ _ _ _; (first | refine .mk 0 (by decide +kernel) ?_ | refine .mk 1 (by decide +kernel) ?_ | refine .mk 2 (by decide +kernel) ?_ | refine .mk 3 (by decide +kernel) ?_ | refine .mk 4 (by decide +kernel) ?_ | refine .mk 5 (by decide +kernel) ?_ | refine .mk 6 (by decide +kernel) ?_ | refine .mk 7 (by decide +kernel) ?_ | refine .mk 8 (by decide +kernel) ?_ | refine .mk 9 (by decide +kernel) ?_ | refine .mk 10 (by decide +kernel) ?_ | refine .mk 11 (by decide +kernel) ?_ | refine .mk 12 (by decide +kernel) ?_ | refine .mk 13 (by decide +kernel) ?_ | refine .mk 14 (by decide +kernel) ?_ | refine .mk 15 (by decide +kernel) ?_ | refine .mk 16 (by decide +kernel) ?_ | refine .mk 17 (by decide +kernel) ?_ | refine .mk 18 (by decide +kernel) ?_ | refine .mk 19 (by decide +kernel) ?_ | refine .mk 20 (by decide +kernel) ?_ | refine .mk 21 (by decide +kernel) ?_ | refine .mk 22 (by decide +kernel) ?_ | refine .mk 23 (by decide +kernel) ?_ | refine .mk 24 (by decide +kernel) ?_ | refine .mk 25 (by decide +kernel) ?_ | refine .mk 26 (by decide +kernel) ?_ | refine .mk 27 (by decide +kernel) ?_ | refine .mk 28 (by decide +kernel) ?_ | refine .mk 29 (by decide +kernel) ?_ | refine .mk 30 (by decide +kernel) ?_ | refine .mk 31 (by decide +kernel) ?_ | refine .mk 32 (by decide +kernel) ?_ | refine .mk 33 (by decide +kernel) ?_ | refine .mk 34 (by decide +kernel) ?_ | refine .mk 35 (by decide +kernel) ?_ | refine .mk 36 (by decide +kernel) ?_ | refine .mk 37 (by decide +kernel) ?_ | refine .mk 38 (by decide +kernel) ?_ | refine .mk 39 (by decide +kernel) ?_ | refine .mk 40 (by decide +kernel) ?_ | refine .mk 41 (by decide +kernel) ?_); (conv => whnf))
        | (refine HOLD.mk (by first | exact trivial | exact ⟨⟨rfl, rfl⟩, trivial⟩ | exact ⟨⟨rfl, rfl⟩, ⟨rfl, rfl⟩, trivial⟩) ?_; (conv => whnf))
        | (refine CALL0.cutBy lvChosen2 _ _ _ _ _ (leL_refl _) (hb ..) rfl ?_; conv => whnf)
        | (refine CALL0.mk _ _ _ _ _ (leL_refl _) (hb ..) rfl ?_; conv => whnf)
        | (refine CALLQ.mk _ _ _ (leL_refl _) (hb ..) rfl ?_; conv => whnf)
        | (refine CALL0.cutBy lvChosen2 _ _ _ _ _ (leL_refl _) (hT' ..) rfl ?_; conv => whnf)
        | (refine CALL0.mk _ _ _ _ _ (leL_refl _) (hT' ..) rfl ?_; conv => whnf)
        | (refine CALLQ.mk _ _ _ (leL_refl _) (hT' ..) rfl ?_; conv => whnf)
      split
      · rename_i h
        exact Bool.noConfusion ((c1).symm.trans h)
      rename_i hN
      clear hN
      conv => whnf
      cases z1 : decide (x + k < P) with
      | true =>
        have c6 := c2 (of_decide_eq_true z1)
        have c7 : (x + k == P) = false := by
          have := of_decide_eq_true z1
          simp; omega
        conv => whnf
        split
        · rename_i h
          exact Bool.noConfusion ((c6).symm.trans h)
        rename_i hN
        clear hN
        conv => whnf
        split
        · rename_i h
          exact Bool.noConfusion ((c7).symm.trans h)
        rename_i hN
        clear hN
        conv => whnf
        cases z3 : decide (m2 ≤ m) with
        | true =>
          have c8 : decide (x + k < L) = false := by
            cases z : decide (x + k < L) with
            | false => rfl
            | true => rw [c4 (of_decide_eq_true z)] at z3; cases z3
          have c9 : decide (m2 > m) = false := by
            have := of_decide_eq_true z3
            exact decide_eq_false (by omega)
          conv => whnf
          split
          · rename_i h
            exact Bool.noConfusion ((c8).symm.trans h)
          rename_i hN
          clear hN
          conv => whnf
          cases z4 : (x + k == L) with
          | true =>
            conv => whnf
            split
            · rename_i h
              exact Bool.noConfusion ((c9).symm.trans h)
            rename_i hN
            clear hN
            conv => whnf
            exact ⟨⟨k + 1, hlt⟩, ⟨⟨leV_int hw, leV_refl _, leV_refl _, leV_refl _, leV_refl _, leV_refl _, leV_refl _, leV_refl _, leV_refl _, leV_refl _, trivial⟩, ⟨leL_refl _, leL_refl _, leL_refl _, leL_refl _, trivial⟩, rfl, rfl⟩, (by show N - (k + 1) < N - k; omega)⟩
          | false =>
            conv => whnf
            exact ⟨⟨k + 1, hlt⟩, ⟨⟨leV_int hw, leV_refl _, leV_refl _, leV_refl _, leV_refl _, leV_refl _, leV_refl _, leV_refl _, leV_refl _, leV_refl _, trivial⟩, ⟨leL_refl _, leL_refl _, leL_refl _, leL_refl _, trivial⟩, rfl, rfl⟩, (by show N - (k + 1) < N - k; omega)⟩
        | false =>
          have c8 : (x + k == L) = false := by
            cases z : (x + k == L) with
            | false => rfl
            | true => rw [c5 (by simpa using z)] at z3; cases z3
          conv => whnf
          split
          · rename_i h
            exact Bool.noConfusion ((c8).symm.trans h)
          rename_i hN
          clear hN
          conv => whnf
          exact ⟨⟨k + 1, hlt⟩, ⟨⟨leV_int hw, leV_refl _, leV_refl _, leV_refl _, leV_refl _, leV_refl _, leV_refl _, leV_refl _, leV_refl _, leV_refl _, trivial⟩, ⟨leL_refl _, leL_refl _, leL_refl _, leL_refl _, trivial⟩, rfl, rfl⟩, (by show N - (k + 1) < N - k; omega)⟩
      | false =>
        conv => whnf
        cases z2 : (x + k == P) with
        | false =>
          conv => whnf
          cases z3 : decide (m2 ≤ m) with
          | true =>
            have c8 : decide (x + k < L) = false := by
              cases z : decide (x + k < L) with
              | false => rfl
              | true => rw [c4 (of_decide_eq_true z)] at z3; cases z3
            have c9 : decide (m2 > m) = false := by
              have := of_decide_eq_true z3
              exact decide_eq_false (by omega)
            conv => whnf
            split
            · rename_i h
              exact Bool.noConfusion ((c8).symm.trans h)
            rename_i hN
            clear hN
            conv => whnf
            cases z4 : (x + k == L) with
            | true =>
              conv => whnf
              split
              · rename_i h
                exact Bool.noConfusion ((c9).symm.trans h)
              rename_i hN
              clear hN
              conv => whnf
              exact ⟨⟨k + 1, hlt⟩, ⟨⟨leV_int hw, leV_refl _, leV_refl _, leV_refl _, leV_refl _, leV_refl _, leV_refl _, leV_refl _, leV_refl _, leV_refl _, trivial⟩, ⟨leL_refl _, leL_refl _, leL_refl _, leL_refl _, trivial⟩, rfl, rfl⟩, (by show N - (k + 1) < N - k; omega)⟩
            | false =>
              conv => whnf
              exact ⟨⟨k + 1, hlt⟩, ⟨⟨leV_int hw, leV_refl _, leV_refl _, leV_refl _, leV_refl _, leV_refl _, leV_refl _, leV_refl _, leV_refl _, leV_refl _, trivial⟩, ⟨leL_refl _, leL_refl _, leL_refl _, leL_refl _, trivial⟩, rfl, rfl⟩, (by show N - (k + 1) < N - k; omega)⟩
          | false =>
            have c8 : (x + k == L) = false := by
              cases z : (x + k == L) with
              | false => rfl
              | true => rw [c5 (by simpa using z)] at z3; cases z3
            conv => whnf
            split
            · rename_i h
              exact Bool.noConfusion ((c8).symm.trans h)
            rename_i hN
            clear hN
            conv => whnf
            exact ⟨⟨k + 1, hlt⟩, ⟨⟨leV_int hw, leV_refl _, leV_refl _, leV_refl _, leV_refl _, leV_refl _, leV_refl _, leV_refl _, leV_refl _, leV_refl _, trivial⟩, ⟨leL_refl _, leL_refl _, leL_refl _, leL_refl _, trivial⟩, rfl, rfl⟩, (by show N - (k + 1) < N - k; omega)⟩
        | true =>
          obtain ⟨c6, c7⟩ := c3 (by simpa using z2)
          conv => whnf
          split
          · rename_i h
            exact Bool.noConfusion (((show (!(m1 == T1 && (m2 == T2 && true))) = false by simp [c6, c7])).symm.trans h)
          rename_i hN
          clear hN
          conv => whnf
          cases z3 : decide (m2 ≤ m) with
          | true =>
            have c8 : decide (x + k < L) = false := by
              cases z : decide (x + k < L) with
              | false => rfl
              | true => rw [c4 (of_decide_eq_true z)] at z3; cases z3
            have c9 : decide (m2 > m) = false := by
              have := of_decide_eq_true z3
              exact decide_eq_false (by omega)
            conv => whnf
            split
            · rename_i h
              exact Bool.noConfusion ((c8).symm.trans h)
            rename_i hN
            clear hN
            conv => whnf
            cases z4 : (x + k == L) with
            | true =>
              conv => whnf
              split
              · rename_i h
                exact Bool.noConfusion ((c9).symm.trans h)
              rename_i hN
              clear hN
              conv => whnf
              exact ⟨⟨k + 1, hlt⟩, ⟨⟨leV_int hw, leV_refl _, leV_refl _, leV_refl _, leV_refl _, leV_refl _, leV_refl _, leV_refl _, leV_refl _, leV_refl _, trivial⟩, ⟨leL_refl _, leL_refl _, leL_refl _, leL_refl _, trivial⟩, rfl, rfl⟩, (by show N - (k + 1) < N - k; omega)⟩
            | false =>
              conv => whnf
              exact ⟨⟨k + 1, hlt⟩, ⟨⟨leV_int hw, leV_refl _, leV_refl _, leV_refl _, leV_refl _, leV_refl _, leV_refl _, leV_refl _, leV_refl _, leV_refl _, trivial⟩, ⟨leL_refl _, leL_refl _, leL_refl _, leL_refl _, trivial⟩, rfl, rfl⟩, (by show N - (k + 1) < N - k; omega)⟩
          | false =>
            have c8 : (x + k == L) = false := by
              cases z : (x + k == L) with
              | false => rfl
              | true => rw [c5 (by simpa using z)] at z3; cases z3
            conv => whnf
            split
            · rename_i h
              exact Bool.noConfusion ((c8).symm.trans h)
            rename_i hN
            clear hN
            conv => whnf
            exact ⟨⟨k + 1, hlt⟩, ⟨⟨leV_int hw, leV_refl _, leV_refl _, leV_refl _, leV_refl _, leV_refl _, leV_refl _, leV_refl _, leV_refl _, leV_refl _, trivial⟩, ⟨leL_refl _, leL_refl _, leL_refl _, leL_refl _, trivial⟩, rfl, rfl⟩, (by show N - (k + 1) < N - k; omega)⟩
  · have q : decide (x + k ≤ y) = false := decide_eq_false (by omega)
    have : k = N := by omega
    subst this
    conv => whnf
    split
    · rename_i h
      exact Bool.noConfusion ((q).symm.trans h)
    rename_i hN
    clear hN
    conv => whnf
    cases z5 : (y == 64) with
    | true =>
      conv => whnf
      exact ⟨rfl, rfl⟩
    | false =>
      conv => whnf
      repeat first
        | (show DRAW _ _ _ _ _; (first | refine .mk 0 (by decide +kernel) ?_ | refine .mk 1 (by decide +kernel) ?_ | refine .mk 2 (by decide +kernel) ?_ | refine .mk 3 (by decide +kernel) ?_ | refine .mk 4 (by decide +kernel) ?_ | refine .mk 5 (by decide +kernel) ?_ | refine .mk 6 (by decide +kernel) ?_ | refine .mk 7 (by decide +kernel) ?_ | refine .mk 8 (by decide +kernel) ?_ | refine .mk 9 (by decide +kernel) ?_ | refine .mk 10 (by decide +kernel) ?_ | refine .mk 11 (by decide +kernel) ?_ | refine .mk 12 (by decide +kernel) ?_ | refine .mk 13 (by decide +kernel) ?_ | refine .mk 14 (by decide +kernel) ?_ | refine .mk 15 (by decide +kernel) ?_ | refine .mk 16 (by decide +kernel) ?_ | refine .mk 17 (by decide +kernel) ?_ | refine .mk 18 (by decide +kernel) ?_ | refine .mk 19 (by decide +kernel) ?_ | refine .mk 20 (by decide +kernel) ?_ | refine .mk 21 (by decide +kernel) ?_ | refine .mk 22 (by decide +kernel) ?_ | refine .mk 23 (by decide +kernel) ?_ | refine .mk 24 (by decide +kernel) ?_ | refine .mk 25 (by decide +kernel) ?_ | refine .mk 26 (by decide +kernel) ?_ | refine .mk 27 (by decide +kernel) ?_ | refine .mk 28 (by decide +kernel) ?_ | refine .mk 29 (by decide +kernel) ?_ | refine .mk 30 (by decide +kernel) ?_ | refine .mk 31 (by decide +kernel) ?_ | refine .mk 32 (by decide +kernel) ?_ | refine .mk 33 (by decide +kernel) ?_ | refine .mk 34 (by decide +kernel) ?_ | refine .mk 35 (by decide +kernel) ?_ | refine .mk 36 (by decide +kernel) ?_ | refine .mk 37 (by decide +kernel) ?_ | refine .mk 38 (by decide +kernel) ?_ | refine .mk 39 (by decide +kernel) ?_ | refine .mk 40 (by decide +kernel) ?_ | refine .mk 41 (by decide +kernel) ?_); (conv => whnf))
        | (refine HOLD.mk (by first | exact trivial | exact ⟨⟨rfl, rfl⟩, trivial⟩ | exact ⟨⟨rfl, rfl⟩, ⟨rfl, rfl⟩, trivial⟩) ?_; (conv => whnf))
        | (refine CALL0.cutBy lvChosen2 _ _ _ _ _ (leL_refl _) (hb ..) rfl ?_; conv => whnf)
        | (refine CALL0.mk _ _ _ _ _ (leL_refl _) (hb ..) rfl ?_; conv => whnf)
        | (refine CALLQ.mk _ _ _ (leL_refl _) (hb ..) rfl ?_; conv => whnf)
      refine .thaw (liveOf lvChosen2 260) 260 rfl [.lst none 1 b.nl fun i => [.int .i64 (b.lf i)], .lst none 1 b.nd fun i => [.int .i64 (b.df i)]] 4 b.nr 20 (fun i => [.int .i64 (b.r1 i), .int .i64 (b.r2 i), .int .i64 (b.r3 i), .int .i64 (b.r4 i)])
        (leL_refl _) rfl (fun i _ => rfl) hpos (fun vs hv _ => ?_) rfl (fun j cc bb => ?_)
      · match vs, hv with
        | [v1, v2], _ => exact c_told [] b.nr hnn b.r1 b.r2 b.r3 b.r4 v1 v2
      conv => whnf
      have hft := flat_tag (t := 260) (e := 4) (n := b.nr) (m := j) (f := fun i => [.int .i64 (b.r1 i), .int .i64 (b.r2 i), .int .i64 (b.r3 i), .int .i64 (b.r4 i)]) (fun i _ => rfl)
      split
      · rename_i h
        exact absurd h (by simp [tmTag, ceTag, hasTag, hasTagL, hft])
      rename_i hN
      clear hN
      conv => whnf
      clear hft
      have hcl : ∀ k, clL [15, 260, 8, 5, 4, 3] (flatR 4 b.nr (twF b k) ++ List.replicate j .dead) = true := fun k => flat_cl (fun i _ => rfl)
      refine .mk (α := {i : Nat // i ≤ b.nr ∧ ∀ z, z < i → b.r3 z ≠ -64}) (fun i => ⟨[(264, .int .i64 i.1), (263, .int .i64 b.nr), (15, .ptr 0 15 0), (7, .int .i64 P), (9, .int .i64 0), (4, .ptr 0 4 0), (5, .ptr 0 5 0), (8, .ptr 0 8 0), (6, .bool false)],
        [(15, [.lst none 1 b.nl fun i => [.int .i64 (b.lf i)], .lst none 1 b.nd fun i => [.int .i64 (b.df i)], .row 260 4 b.nr cc bb]),
         (260, flatR 4 b.nr (twF b i.1) ++ List.replicate j .dead),
         (8, [.int .i64 T1, .int .i64 T2]), (5, [.int .i64 d, .int .i64 x, .int .i64 y, .int .i64 m]), (4, [.int .i64 f.w, .int .i64 f.s, .int .i64 f.p]),
         (3, [.lst none 1 b.nl fun i => [.int .i64 (b.lf i)], .lst none 1 b.nd fun i => [.int .i64 (b.df i)], .lst none 4 b.nr fun i => [.int .i64 (b.r1 i), .int .i64 (b.r2 i), .int .i64 (b.r3 i), .int .i64 (b.r4 i)]])], up⟩) (fun i => b.nr - i.1) ⟨0, Nat.zero_le _, fun z hz => by omega⟩ ⟨?_, ?_, rfl, ?_⟩ ?_
      · exact ⟨leV_refl _, leV_refl _, leV_refl _, leV_refl _, leV_refl _, leV_refl _, leV_refl _, leV_refl _, leV_refl _, trivial⟩
      · exact ⟨leL_refl _, leL_refl _, leL_refl _, leL_refl _, leL_refl _, leL_refl _, trivial⟩
      · simp [clT, clC, clL, clV, keys, hcl]
      rintro ⟨i, hi, hi64⟩
      have hiw : w64 ((i : Int) + 1) = ((i + 1 : Nat) : Int) := by rw [w64, wrap_in] <;> omega
      by_cases hin : i < b.nr
      · have q : decide ((i : Int) < b.nr) = true := decide_eq_true (by omega)
        have hc := tw_nth (b := b) (j := j) hin
        have hla := tw_lay (j := j) zB hin
        conv => whnf
        split
        rotate_left
        · rename_i h
          exact Bool.noConfusion ((q).symm.trans h)
        rename_i hN
        clear hN
        conv => whnf
        split
        rotate_left
        · rename_i h
          exact Bool.noConfusion ((q).symm.trans h)
        rename_i hN
        clear hN
        conv => whnf
        split
        rotate_left
        · rename_i h; exact absurd (hc.symm.trans h) nofun
        rename_i c0 h
        obtain rfl := Option.some.inj (hc.symm.trans h)
        clear h
        conv => whnf
        cases z6 : (b.r3 i == -64) with
        | true =>
          conv => whnf
          exact ⟨rfl, rfl⟩
        | false =>
          conv => whnf
          split
          rotate_left
          · rename_i h
            exact Bool.noConfusion ((q).symm.trans h)
          rename_i hN
          clear hN
          conv => whnf
          split
          rotate_left
          · rename_i h; exact absurd (hc.symm.trans h) nofun
          rename_i c0 h
          obtain rfl := Option.some.inj (hc.symm.trans h)
          clear h
          conv => whnf
          split
          rotate_left
          · rename_i h
            exact Bool.noConfusion ((q).symm.trans h)
          rename_i hN
          clear hN
          conv => whnf
          have hc := hla
          split
          rotate_left
          · rename_i h; exact absurd (hc.symm.trans h) nofun
          rename_i c0 h
          obtain rfl := Option.some.inj (hc.symm.trans h)
          clear h
          conv => whnf
          have hi2 : ∀ z, z < i + 1 → b.r3 z ≠ -64 := fun z hz => by
            by_cases hzi : z = i
            · subst hzi; intro h; rw [h] at z6; cases z6
            · exact hi64 z (by omega)
          refine ⟨⟨i + 1, hin, hi2⟩, ⟨⟨leV_int hiw, leV_refl _, leV_refl _, leV_refl _, leV_refl _, leV_refl _, leV_refl _, leV_refl _, leV_refl _, trivial⟩, ⟨leL_refl _, leL_refl _, leL_refl _, leL_refl _, leL_refl _, leL_refl _, trivial⟩, rfl, ?_⟩, (by show b.nr - (i + 1) < b.nr - i; omega)⟩
          simp [clT, clC, clL, clV, keys, hcl]
      · have q : decide ((i : Int) < b.nr) = false := decide_eq_false (by omega)
        have hin2 : i = b.nr := by omega
        subst hin2
        have hy : y < 64 := by
          have : y ≠ 64 := fun h => by rw [h] at z5; cases z5
          omega
        have hBt := fun up => c_Best (gl := gl) up b.tw f d (x + 1) (y + 1)
        rw [hTw hy hi64] at hBt
        have hwx : w64 (x + 1) = x + 1 := by rw [w64, wrap_in] <;> omega
        have hwy : w64 (y + 1) = y + 1 := by rw [w64, wrap_in] <;> omega
        have hwP : w64 (P + 1) = P + 1 := by rw [w64, wrap_in] <;> omega
        rw [← hwx, ← hwy] at hBt
        have hbt := fun up => c_blade (gl := gl) up b.tw hl hdd hnn
        conv => whnf
        split
        · rename_i h
          exact Bool.noConfusion ((q).symm.trans h)
        rename_i hN
        clear hN
        conv => whnf
        refine DRAW.mkR 260 4 b.nr (twF b b.nr) (List.replicate j .dead) rfl (fun i _ => ⟨rfl, rfl⟩) 17 (by decide +kernel) (by simp [rowT, rowV]) (by simp [rowC, rowV, rowVL]) ?_
        conv => whnf
        refine .mk _ _ _ ?_ (hbt _) rfl ?_
        · refine ⟨⟨leV_refl _, leV_refl _, ⟨.inl rfl, rfl, rfl, fun z hz => ?_⟩, trivial⟩, trivial⟩
          show [_, _, _, _] = [_, _, _, _]
          rw [if_pos hz]
          rfl
        conv => whnf
        repeat first
          | (show DRAW _ _ _ _ _; (first | refine .mk 0 (by decide +kernel) ?_ | refine .mk 1 (by decide +kernel) ?_ | refine .mk 2 (by decide +kernel) ?_ | refine .mk 3 (by decide +kernel) ?_ | refine .mk 4 (by decide +kernel) ?_ | refine .mk 5 (by decide +kernel) ?_ | refine .mk 6 (by decide +kernel) ?_ | refine .mk 7 (by decide +kernel) ?_ | refine .mk 8 (by decide +kernel) ?_ | refine .mk 9 (by decide +kernel) ?_ | refine .mk 10 (by decide +kernel) ?_ | refine .mk 11 (by decide +kernel) ?_ | refine .mk 12 (by decide +kernel) ?_ | refine .mk 13 (by decide +kernel) ?_ | refine .mk 14 (by decide +kernel) ?_ | refine .mk 15 (by decide +kernel) ?_ | refine .mk 16 (by decide +kernel) ?_ | refine .mk 17 (by decide +kernel) ?_ | refine .mk 18 (by decide +kernel) ?_ | refine .mk 19 (by decide +kernel) ?_ | refine .mk 20 (by decide +kernel) ?_ | refine .mk 21 (by decide +kernel) ?_ | refine .mk 22 (by decide +kernel) ?_ | refine .mk 23 (by decide +kernel) ?_ | refine .mk 24 (by decide +kernel) ?_ | refine .mk 25 (by decide +kernel) ?_ | refine .mk 26 (by decide +kernel) ?_ | refine .mk 27 (by decide +kernel) ?_ | refine .mk 28 (by decide +kernel) ?_ | refine .mk 29 (by decide +kernel) ?_ | refine .mk 30 (by decide +kernel) ?_ | refine .mk 31 (by decide +kernel) ?_ | refine .mk 32 (by decide +kernel) ?_ | refine .mk 33 (by decide +kernel) ?_ | refine .mk 34 (by decide +kernel) ?_ | refine .mk 35 (by decide +kernel) ?_ | refine .mk 36 (by decide +kernel) ?_ | refine .mk 37 (by decide +kernel) ?_ | refine .mk 38 (by decide +kernel) ?_ | refine .mk 39 (by decide +kernel) ?_ | refine .mk 40 (by decide +kernel) ?_ | refine .mk 41 (by decide +kernel) ?_); (conv => whnf))
          | (refine HOLD.mk (by first | exact trivial | exact ⟨⟨rfl, rfl⟩, trivial⟩ | exact ⟨⟨rfl, rfl⟩, ⟨rfl, rfl⟩, trivial⟩) ?_; (conv => whnf))
          | (refine CALL0.cutBy lvChosen2 _ _ _ _ _ (leL_refl _) (hBt ..) rfl ?_; conv => whnf)
          | (refine CALL0.mk _ _ _ _ _ (leL_refl _) (hBt ..) rfl ?_; conv => whnf)
          | (refine CALLQ.mk _ _ _ (leL_refl _) (hBt ..) rfl ?_; conv => whnf)
        split
        rotate_left
        · rename_i h
          exact Bool.noConfusion (((show (P + 1 == w64 (P + 1)) = true by rw [hwP]; simp)).symm.trans h)
        rename_i hN
        clear hN
        conv => whnf
        exact ⟨by simp, rfl⟩
set_option maxHeartbeats 8000000 in
theorem chosen_try7 (up : List Ces) (hr : gl g_rotor_roots = rootsI) (hp : gl g_internal_strconv_uint64pow10 = powI) (b : Bl) (f : Fl) (x y m : Int) (n : Nat) (hs : lightB b f = true) (zB : b.err = 0) (zF : f.err = 0) (hn5 : n + 1 ≤ 5)
    (p1 : -64 ≤ x) (p2 : x ≤ y) (p3 : y ≤ 64) (q3 : decide (w64 (y - x) > 7) = false) (zP : pitchErr x y = 0) (zM : withinS m (-1152921504606846976) 1152921504606846976 = 0) (N : Nat) (hN : y + 1 - x = N) (d : Int) (hd : d = ((n + 1 : Nat) : Int))
    (P T1 T2 : Int) (hP1 : x ≤ P) (hP2 : P ≤ y) 
    (hPn : ∀ k : Nat, k < N → b.tq (f.at (x + k)) n = none → (x + k == P) = false)
    (hbest : ∀ (k : Nat) m1 m2, k < N → b.tq (f.at (x + k)) n = some (m1, m2) → decide (m1 > T1) = false ∧ (x + k < P → (m1 == T1) = false) ∧ (x + k = P → m1 = T1 ∧ m2 = T2))
    (hlim : ∀ (k : Nat) m1 m2, k < N → b.tq (f.at (x + k)) n = some (m1, m2) → decide (m2 ≤ m) = false)
    (hTw : y < 64 → (∀ z, z < b.nr → b.r3 z ≠ -64) → bestR b.tw f d (x + 1) (y + 1) = .tup [.int .i64 (P + 1), .agg [.int .i64 T1, .int .i64 T2], .int .i64 0])
    (eB : bestR b f d x y = .tup [.int .i64 P, .agg [.int .i64 T1, .int .i64 T2], .int .i64 0]) (eL : limR b f d x y m = .tup [.int .i64 0, .int .i64 7]) :
    Cs gl n_nacellelaw03_RotorChosen up [b.iv, f.iv, .agg [.int .i64 d, .int .i64 x, .int .i64 y, .int .i64 m]] (.bool true) up := by
  have hsh : b.short = true := by
    unfold lightB at hs
    simp only [Bool.and_eq_true] at hs
    exact hs.1
  obtain ⟨hl, hdd, hnn⟩ := short_le hsh
  have hpos : 0 < b.nr := err_pos zB
  have hA := fun up => c_awake (gl := gl) up hr hp
  have hS := fun up => c_light (gl := gl) up b f
  have hE := fun up => c_rCheckBlade (gl := gl) up b
  have hFl := fun up => c_rCheckFlow (gl := gl) up f.w f.s f.p
  have hCP := fun up => c_rCheckPitches (gl := gl) up x y
  have hCR := fun up => c_CheckRange (gl := gl) up m (-1152921504606846976) 1152921504606846976
  rw [hs] at hS
  rw [zB] at hE
  have zF' : flowS f.w f.s f.p = 0 := zF
  rw [zF'] at hFl
  rw [zP] at hCP
  rw [zM] at hCR
  have hb := fun up => c_blade (gl := gl) up b hl hdd hnn
  have hB := fun up => c_Best (gl := gl) up b f d x y
  have hL := fun up => c_Limit (gl := gl) up b f d x y m
  rw [eB] at hB
  rw [eL] at hL
  have q1 : decide (d < 1) = false := decide_eq_false (by omega)
  have q2 : decide (d > 5) = false := decide_eq_false (by omega)
  have hT0 : ∀ up (k : Nat), k < N → b.tq (f.at (x + k)) n = none → Cs gl n_rotor_Torque up [b.iv, flowI f.w f.s (x + k), .int .i64 d] (.tup [.agg [.int .i64 0, .int .i64 0], .int .i64 7]) up := fun up k hk hq => by
    have h := c_Torque (gl := gl) up b (f.at (x + k)) d
    rw [hd, torR_ok ⟨zB, Fl.at_err zF (by omega) (by omega)⟩ (by omega), if_neg (tq_none hq), ← hd] at h
    exact h
  have hT1 : ∀ up (k : Nat) (t : Int × Int), k < N → b.tq (f.at (x + k)) n = some t → Cs gl n_rotor_Torque up [b.iv, flowI f.w f.s (x + k), .int .i64 d] (.tup [.agg [.int .i64 t.1, .int .i64 t.2], .int .i64 0]) up := fun up k t hk hq => by
    have h := c_Torque (gl := gl) up b (f.at (x + k)) d
    obtain ⟨hq1, hq2⟩ := tq_some hq
    rw [hd, torR_ok ⟨zB, Fl.at_err zF (by omega) (by omega)⟩ (by omega), if_pos hq1, ← hd] at h
    rw [hq2] at h
    exact h
  have qp1 : decide (P < x) = false := decide_eq_false (by omega)
  have qp2 : decide (P > y) = false := decide_eq_false (by omega)
  clear eB eL
  refine mk h_nacellelaw03_RotorChosen rfl rfl ?_
  conv => whnf
  repeat first
    | (show DRAW _ _ _ _ _; (first | refine .mk 0 (by decide +kernel) ?_ | refine .mk 1 (by decide +kernel) ?_ | refine .mk 2 (by decide +kernel) ?_ | refine .mk 3 (by decide +kernel) ?_ | refine .mk 4 (by decide +kernel) ?_ | refine .mk 5 (by decide +kernel) ?_ | refine .mk 6 (by decide +kernel) ?_ | refine .mk 7 (by decide +kernel) ?_ | refine .mk 8 (by decide +kernel) ?_ | refine .mk 9 (by decide +kernel) ?_ | refine .mk 10 (by decide +kernel) ?_ | refine .mk 11 (by decide +kernel) ?_ | refine .mk 12 (by decide +kernel) ?_ | refine .mk 13 (by decide +kernel) ?_ | refine .mk 14 (by decide +kernel) ?_ | refine .mk 15 (by decide +kernel) ?_ | refine .mk 16 (by decide +kernel) ?_ | refine .mk 17 (by decide +kernel) ?_ | refine .mk 18 (by decide +kernel) ?_ | refine .mk 19 (by decide +kernel) ?_ | refine .mk 20 (by decide +kernel) ?_ | refine .mk 21 (by decide +kernel) ?_ | refine .mk 22 (by decide +kernel) ?_ | refine .mk 23 (by decide +kernel) ?_ | refine .mk 24 (by decide +kernel) ?_ | refine .mk 25 (by decide +kernel) ?_ | refine .mk 26 (by decide +kernel) ?_ | refine .mk 27 (by decide +kernel) ?_ | refine .mk 28 (by decide +kernel) ?_ | refine .mk 29 (by decide +kernel) ?_ | refine .mk 30 (by decide +kernel) ?_ | refine .mk 31 (by decide +kernel) ?_ | refine .mk 32 (by decide +kernel) ?_ | refine .mk 33 (by decide +kernel) ?_ | refine .mk 34 (by decide +kernel) ?_ | refine .mk 35 (by decide +kernel) ?_ | refine .mk 36 (by decide +kernel) ?_ | refine .mk 37 (by decide +kernel) ?_ | refine .mk 38 (by decide +kernel) ?_ | refine .mk 39 (by decide +kernel) ?_ | refine .mk 40 (by decide +kernel) ?_ | refine .mk 41 (by decide +kernel) ?_); (conv => whnf))
    | (refine HOLD.mk (by first | exact trivial | exact ⟨⟨rfl, rfl⟩, trivial⟩ | exact ⟨⟨rfl, rfl⟩, ⟨rfl, rfl⟩, trivial⟩) ?_; (conv => whnf))
    | (refine CALL0.cutBy lvChosen2 _ _ _ _ _ (leL_refl _) (hA ..) rfl ?_; conv => whnf)
    | (refine CALL0.mk _ _ _ _ _ (leL_refl _) (hA ..) rfl ?_; conv => whnf)
    | (refine CALLQ.mk _ _ _ (leL_refl _) (hA ..) rfl ?_; conv => whnf)
    | (refine CALL0.cutBy lvChosen2 _ _ _ _ _ (leL_refl _) (hS ..) rfl ?_; conv => whnf)
    | (refine CALL0.mk _ _ _ _ _ (leL_refl _) (hS ..) rfl ?_; conv => whnf)
    | (refine CALLQ.mk _ _ _ (leL_refl _) (hS ..) rfl ?_; conv => whnf)
    | (refine CALL0.cutBy lvChosen2 _ _ _ _ _ (leL_refl _) (hE ..) rfl ?_; conv => whnf)
    | (refine CALL0.mk _ _ _ _ _ (leL_refl _) (hE ..) rfl ?_; conv => whnf)
    | (refine CALLQ.mk _ _ _ (leL_refl _) (hE ..) rfl ?_; conv => whnf)
    | (refine CALL0.cutBy lvChosen2 _ _ _ _ _ (leL_refl _) (hFl ..) rfl ?_; conv => whnf)
    | (refine CALL0.mk _ _ _ _ _ (leL_refl _) (hFl ..) rfl ?_; conv => whnf)
    | (refine CALLQ.mk _ _ _ (leL_refl _) (hFl ..) rfl ?_; conv => whnf)
  split
  · rename_i h
    exact Bool.noConfusion ((q1).symm.trans h)
  rename_i hN
  clear hN
  conv => whnf
  split
  · rename_i h
    exact Bool.noConfusion ((q2).symm.trans h)
  rename_i hN
  clear hN
  conv => whnf
  repeat first
    | (show DRAW _ _ _ _ _; (first | refine .mk 0 (by decide +kernel) ?_ | refine .mk 1 (by decide +kernel) ?_ | refine .mk 2 (by decide +kernel) ?_ | refine .mk 3 (by decide +kernel) ?_ | refine .mk 4 (by decide +kernel) ?_ | refine .mk 5 (by decide +kernel) ?_ | refine .mk 6 (by decide +kernel) ?_ | refine .mk 7 (by decide +kernel) ?_ | refine .mk 8 (by decide +kernel) ?_ | refine .mk 9 (by decide +kernel) ?_ | refine .mk 10 (by decide +kernel) ?_ | refine .mk 11 (by decide +kernel) ?_ | refine .mk 12 (by decide +kernel) ?_ | refine .mk 13 (by decide +kernel) ?_ | refine .mk 14 (by decide +kernel) ?_ | refine .mk 15 (by decide +kernel) ?_ | refine .mk 16 (by decide +kernel) ?_ | refine .mk 17 (by decide +kernel) ?_ | refine .mk 18 (by decide +kernel) ?_ | refine .mk 19 (by decide +kernel) ?_ | refine .mk 20 (by decide +kernel) ?_ | refine .mk 21 (by decide +kernel) ?_ | refine .mk 22 (by decide +kernel) ?_ | refine .mk 23 (by decide +kernel) ?_ | refine .mk 24 (by decide +kernel) ?_ | refine .mk 25 (by decide +kernel) ?_ | refine .mk 26 (by decide +kernel) ?_ | refine .mk 27 (by decide +kernel) ?_ | refine .mk 28 (by decide +kernel) ?_ | refine .mk 29 (by decide +kernel) ?_ | refine .mk 30 (by decide +kernel) ?_ | refine .mk 31 (by decide +kernel) ?_ | refine .mk 32 (by decide +kernel) ?_ | refine .mk 33 (by decide +kernel) ?_ | refine .mk 34 (by decide +kernel) ?_ | refine .mk 35 (by decide +kernel) ?_ | refine .mk 36 (by decide +kernel) ?_ | refine .mk 37 (by decide +kernel) ?_ | refine .mk 38 (by decide +kernel) ?_ | refine .mk 39 (by decide +kernel) ?_ | refine .mk 40 (by decide +kernel) ?_ | refine .mk 41 (by decide +kernel) ?_); (conv => whnf))
    | (refine HOLD.mk (by first | exact trivial | exact ⟨⟨rfl, rfl⟩, trivial⟩ | exact ⟨⟨rfl, rfl⟩, ⟨rfl, rfl⟩, trivial⟩) ?_; (conv => whnf))
    | (refine CALL0.cutBy lvChosen2 _ _ _ _ _ (leL_refl _) (hCP ..) rfl ?_; conv => whnf)
    | (refine CALL0.mk _ _ _ _ _ (leL_refl _) (hCP ..) rfl ?_; conv => whnf)
    | (refine CALLQ.mk _ _ _ (leL_refl _) (hCP ..) rfl ?_; conv => whnf)
  split
  · rename_i h
    exact Bool.noConfusion ((q3).symm.trans h)
  rename_i hN
  clear hN
  conv => whnf
  repeat first
    | (show DRAW _ _ _ _ _; (first | refine .mk 0 (by decide +kernel) ?_ | refine .mk 1 (by decide +kernel) ?_ | refine .mk 2 (by decide +kernel) ?_ | refine .mk 3 (by decide +kernel) ?_ | refine .mk 4 (by decide +kernel) ?_ | refine .mk 5 (by decide +kernel) ?_ | refine .mk 6 (by decide +kernel) ?_ | refine .mk 7 (by decide +kernel) ?_ | refine .mk 8 (by decide +kernel) ?_ | refine .mk 9 (by decide +kernel) ?_ | refine .mk 10 (by decide +kernel) ?_ | refine .mk 11 (by decide +kernel) ?_ | refine .mk 12 (by decide +kernel) ?_ | refine .mk 13 (by decide +kernel) ?_ | refine .mk 14 (by decide +kernel) ?_ | refine .mk 15 (by decide +kernel) ?_ | refine .mk 16 (by decide +kernel) ?_ | refine .mk 17 (by decide +kernel) ?_ | refine .mk 18 (by decide +kernel) ?_ | refine .mk 19 (by decide +kernel) ?_ | refine .mk 20 (by decide +kernel) ?_ | refine .mk 21 (by decide +kernel) ?_ | refine .mk 22 (by decide +kernel) ?_ | refine .mk 23 (by decide +kernel) ?_ | refine .mk 24 (by decide +kernel) ?_ | refine .mk 25 (by decide +kernel) ?_ | refine .mk 26 (by decide +kernel) ?_ | refine .mk 27 (by decide +kernel) ?_ | refine .mk 28 (by decide +kernel) ?_ | refine .mk 29 (by decide +kernel) ?_ | refine .mk 30 (by decide +kernel) ?_ | refine .mk 31 (by decide +kernel) ?_ | refine .mk 32 (by decide +kernel) ?_ | refine .mk 33 (by decide +kernel) ?_ | refine .mk 34 (by decide +kernel) ?_ | refine .mk 35 (by decide +kernel) ?_ | refine .mk 36 (by decide +kernel) ?_ | refine .mk 37 (by decide +kernel) ?_ | refine .mk 38 (by decide +kernel) ?_ | refine .mk 39 (by decide +kernel) ?_ | refine .mk 40 (by decide +kernel) ?_ | refine .mk 41 (by decide +kernel) ?_); (conv => whnf))
    | (refine HOLD.mk (by first | exact trivial | exact ⟨⟨rfl, rfl⟩, trivial⟩ | exact ⟨⟨rfl, rfl⟩, ⟨rfl, rfl⟩, trivial⟩) ?_; (conv => whnf))
    | (refine CALL0.cutBy lvChosen2 _ _ _ _ _ (leL_refl _) (hCR ..) rfl ?_; conv => whnf)
    | (refine CALL0.mk _ _ _ _ _ (leL_refl _) (hCR ..) rfl ?_; conv => whnf)
    | (refine CALLQ.mk _ _ _ (leL_refl _) (hCR ..) rfl ?_; conv => whnf)
    | (refine CALL0.cutBy lvChosen2 _ _ _ _ _ (leL_refl _) (hA ..) rfl ?_; conv => whnf)
    | (refine CALL0.mk _ _ _ _ _ (leL_refl _) (hA ..) rfl ?_; conv => whnf)
    | (refine CALLQ.mk _ _ _ (leL_refl _) (hA ..) rfl ?_; conv => whnf)
  repeat first
    | (show DRAW _ _ _ _ _; (first | refine .mk 0 (by decide +kernel) ?_ | refine .mk 1 (by decide +kernel) ?_ | refine .mk 2 (by decide +kernel) ?_ | refine .mk 3 (by decide +kernel) ?_ | refine .mk 4 (by decide +kernel) ?_ | refine .mk 5 (by decide +kernel) ?_ | refine .mk 6 (by decide +kernel) ?_ | refine .mk 7 (by decide +kernel) ?_ | refine .mk 8 (by decide +kernel) ?_ | refine .mk 9 (by decide +kernel) ?_ | refine .mk 10 (by decide +kernel) ?_ | refine .mk 11 (by decide +kernel) ?_ | refine .mk 12 (by decide +kernel) ?_ | refine .mk 13 (by decide +kernel) ?_ | refine .mk 14 (by decide +kernel) ?_ | refine .mk 15 (by decide +kernel) ?_ | refine .mk 16 (by decide +kernel) ?_ | refine .mk 17 (by decide +kernel) ?_ | refine .mk 18 (by decide +kernel) ?_ | refine .mk 19 (by decide +kernel) ?_ | refine .mk 20 (by decide +kernel) ?_ | refine .mk 21 (by decide +kernel) ?_ | refine .mk 22 (by decide +kernel) ?_ | refine .mk 23 (by decide +kernel) ?_ | refine .mk 24 (by decide +kernel) ?_ | refine .mk 25 (by decide +kernel) ?_ | refine .mk 26 (by decide +kernel) ?_ | refine .mk 27 (by decide +kernel) ?_ | refine .mk 28 (by decide +kernel) ?_ | refine .mk 29 (by decide +kernel) ?_ | refine .mk 30 (by decide +kernel) ?_ | refine .mk 31 (by decide +kernel) ?_ | refine .mk 32 (by decide +kernel) ?_ | refine .mk 33 (by decide +kernel) ?_ | refine .mk 34 (by decide +kernel) ?_ | refine .mk 35 (by decide +kernel) ?_ | refine .mk 36 (by decide +kernel) ?_ | refine .mk 37 (by decide +kernel) ?_ | refine .mk 38 (by decide +kernel) ?_ | refine .mk 39 (by decide +kernel) ?_ | refine .mk 40 (by decide +kernel) ?_ | refine .mk 41 (by decide +kernel) ?_); (conv => whnf))
    | (refine HOLD.mk (by first | exact trivial | exact ⟨⟨rfl, rfl⟩, trivial⟩ | exact ⟨⟨rfl, rfl⟩, ⟨rfl, rfl⟩, trivial⟩) ?_; (conv => whnf))
    | (refine CALL0.cutBy lvChosen2 _ _ _ _ _ (leL_refl _) (hb ..) rfl ?_; conv => whnf)
    | (refine CALL0.mk _ _ _ _ _ (leL_refl _) (hb ..) rfl ?_; conv => whnf)
    | (refine CALLQ.mk _ _ _ (leL_refl _) (hb ..) rfl ?_; conv => whnf)
    | (refine CALL0.cutBy lvChosen2 _ _ _ _ _ (leL_refl _) (hB ..) rfl ?_; conv => whnf)
    | (refine CALL0.mk _ _ _ _ _ (leL_refl _) (hB ..) rfl ?_; conv => whnf)
    | (refine CALLQ.mk _ _ _ (leL_refl _) (hB ..) rfl ?_; conv => whnf)
    | (refine CALL0.cutBy lvChosen2 _ _ _ _ _ (leL_refl _) (hL ..) rfl ?_; conv => whnf)
    | (refine CALL0.mk _ _ _ _ _ (leL_refl _) (hL ..) rfl ?_; conv => whnf)
    | (refine CALLQ.mk _ _ _ (leL_refl _) (hL ..) rfl ?_; conv => whnf)
  split
  · rename_i h
    exact Bool.noConfusion ((qp1).symm.trans h)
  rename_i hN
  clear hN
  conv => whnf
  split
  · rename_i h
    exact Bool.noConfusion ((qp2).symm.trans h)
  rename_i hN
  clear hN
  conv => whnf
  refine .mk (α := {k : Nat // k ≤ N}) (fun k => ⟨[(12, .int .i64 (x + k.1)), (7, .int .i64 P), (9, .int .i64 0), (10, .int .i64 0), (11, .int .i64 7), (3, .ptr 0 3 0), (4, .ptr 0 4 0), (5, .ptr 0 5 0), (8, .ptr 0 8 0), (6, .bool false)],
    [(8, [.int .i64 T1, .int .i64 T2]), (5, [.int .i64 d, .int .i64 x, .int .i64 y, .int .i64 m]), (4, [.int .i64 f.w, .int .i64 f.s, .int .i64 f.p]),
     (3, [.lst none 1 b.nl fun i => [.int .i64 (b.lf i)], .lst none 1 b.nd fun i => [.int .i64 (b.df i)], .lst none 4 b.nr fun i => [.int .i64 (b.r1 i), .int .i64 (b.r2 i), .int .i64 (b.r3 i), .int .i64 (b.r4 i)]])], up⟩) (fun k => N - k.1) ⟨0, Nat.zero_le _⟩ ⟨?_, ?_, rfl, rfl⟩ ?_
  · exact ⟨leV_int (by show x = x + ((0 : Nat) : Int); omega), leV_refl _, leV_refl _, leV_refl _, leV_refl _, leV_refl _, leV_refl _, leV_refl _, leV_refl _, leV_refl _, trivial⟩
  · exact ⟨leL_refl _, leL_refl _, leL_refl _, leL_refl _, trivial⟩
  rintro ⟨k, hk⟩
  have hw : w64 (x + k + 1) = x + ((k + 1 : Nat) : Int) := by rw [w64, wrap_in] <;> omega
  by_cases hlt : k < N
  · have q : decide (x + k ≤ y) = true := decide_eq_true (by omega)
    cases hq : b.tq (f.at (x + k)) n with
    | none =>
      have hT' := fun up => hT0 up k hlt hq
      have c1 := hPn k hlt hq
      conv => whnf
      split
      rotate_left
      · rename_i h
        exact Bool.noConfusion ((q).symm.trans h)
      rename_i hN
      clear hN
      conv => whnf
      repeat first
        | (show DRAW _ _ _ _ _; (first | refine .mk 0 (by decide +kernel) ?_ | refine .mk 1 (by decide +kernel) ?_ | refine .mk 2 (by decide +kernel) ?_ | refine .mk 3 (by decide +kernel) ?_ | refine .mk 4 (by decide +kernel) ?_ | refine .mk 5 (by decide +kernel) ?_ | refine .mk 6 (by decide +kernel) ?_ | refine .mk 7 (by decide +kernel) ?_ | refine .mk 8 (by decide +kernel) ?_ | refine .mk 9 (by decide +kernel) ?_ | refine .mk 10 (by decide +kernel) ?_ | refine .mk 11 (by decide +kernel) ?_ | refine .mk 12 (by decide +kernel) ?_ | refine .mk 13 (by decide +kernel) ?_ | refine .mk 14 (by decide +kernel) ?_ | refine .mk 15 (by decide +kernel) ?_ | refine .mk 16 (by decide +kernel) ?_ | refine .mk 17 (by decide +kernel) ?_ | refine .mk 18 (by decide +kernel) ?_ | refine .mk 19 (by decide +kernel) ?_ | refine .mk 20 (by decide +kernel) ?_ | refine .mk 21 (by decide +kernel) ?_ | refine .mk 22 (by decide +kernel) ?_ | refine .mk 23 (by decide +kernel) ?_ | refine .mk 24 (by decide +kernel) ?_ | refine .mk 25 (by decide +kernel) ?_ | refine .mk 26 (by decide +kernel) ?_ | refine .mk 27 (by decide +kernel) ?_ | refine .mk 28 (by decide +kernel) ?_ | refine .mk 29 (by decide +kernel) ?_ | refine .mk 30 (by decide +kernel) ?_ | refine .mk 31 (by decide +kernel) ?_ | refine .mk 32 (by decide +kernel) ?_ | refine .mk 33 (by decide +kernel) ?_ | refine .mk 34 (by decide +kernel) ?_ | refine .mk 35 (by decide +kernel) ?_ | refine .mk 36 (by decide +kernel) ?_ | refine .mk 37 (by decide +kernel) ?_ | refine .mk 38 (by decide +kernel) ?_ | refine .mk 39 (by decide +kernel) ?_ | refine .mk 40 (by decide +kernel) ?_ | refine .mk 41 (by decide +kernel) ?_); (conv => whnf))
        | (refine HOLD.mk (by first | exact trivial | exact ⟨⟨rfl, rfl⟩, trivial⟩ | exact ⟨⟨rfl, rfl⟩, ⟨rfl, rfl⟩, trivial⟩) ?_; (conv => whnf))
        | (refine CALL0.cutBy lvChosen2 _ _ _ _ _ (leL_refl _) (hb ..) rfl ?_; conv => whnf)
        | (refine CALL0.mk _ _ _ _ _ (leL_refl _) (hb ..) rfl ?_; conv => whnf)
        | (refine CALLQ.mk _ _ _ (leL_refl _) (hb ..) rfl ?_; conv => whnf)
        | (refine CALL0.cutBy lvChosen2 _ _ _ _ _ (leL_refl _) (hT' ..) rfl ?_; conv => whnf)
        | (refine CALL0.mk _ _ _ _ _ (leL_refl _) (hT' ..) rfl ?_; conv => whnf)
        | (refine CALLQ.mk _ _ _ (leL_refl _) (hT' ..) rfl ?_; conv => whnf)
      split
      · rename_i h
        exact Bool.noConfusion ((c1).symm.trans h)
      rename_i hN
      clear hN
      conv => whnf
      exact ⟨⟨k + 1, hlt⟩, ⟨⟨leV_int hw, leV_refl _, leV_refl _, leV_refl _, leV_refl _, leV_refl _, leV_refl _, leV_refl _, leV_refl _, leV_refl _, trivial⟩, ⟨leL_refl _, leL_refl _, leL_refl _, leL_refl _, trivial⟩, rfl, rfl⟩, (by show N - (k + 1) < N - k; omega)⟩
    | some t =>
      obtain ⟨m1, m2⟩ := t
      have hT' := fun up => hT1 up k _ hlt hq
      obtain ⟨c1, c2, c3⟩ := hbest k m1 m2 hlt hq
      have c8 := hlim k m1 m2 hlt hq
      conv => whnf
      split
      rotate_left
      · rename_i h
        exact Bool.noConfusion ((q).symm.trans h)
      rename_i hN
      clear hN
      conv => whnf
      repeat first
        | (show DRAW _ _ _ _ _; (first | refine .mk 0 (by decide +kernel) ?_ | refine .mk 1 (by decide +kernel) ?_ | refine .mk 2 (by decide +kernel) ?_ | refine .mk 3 (by decide +kernel) ?_ | refine .mk 4 (by decide +kernel) ?_ | refine .mk 5 (by decide +kernel) ?_ | refine .mk 6 (by decide +kernel) ?_ | refine .mk 7 (by decide +kernel) ?_ | refine .mk 8 (by decide +kernel) ?_ | refine .mk 9 (by decide +kernel) ?_ | refine .mk 10 (by decide +kernel) ?_ | refine .mk 11 (by decide +kernel) ?_ | refine .mk 12 (by decide +kernel) ?_ | refine .mk 13 (by decide +kernel) ?_ | refine .mk 14 (by decide +kernel) ?_ | refine .mk 15 (by decide +kernel) ?_ | refine .mk 16 (by decide +kernel) ?_ | refine .mk 17 (by decide +kernel) ?_ | refine .mk 18 (by decide +kernel) ?_ | refine .mk 19 (by decide +kernel) ?_ | refine .mk 20 (by decide +kernel) ?_ | refine .mk 21 (by decide +kernel) ?_ | refine .mk 22 (by decide +kernel) ?_ | refine .mk 23 (by decide +kernel) ?_ | refine .mk 24 (by decide +kernel) ?_ | refine .mk 25 (by decide +kernel) ?_ | refine .mk 26 (by decide +kernel) ?_ | refine .mk 27 (by decide +kernel) ?_ | refine .mk 28 (by decide +kernel) ?_ | refine .mk 29 (by decide +kernel) ?_ | refine .mk 30 (by decide +kernel) ?_ | refine .mk 31 (by decide +kernel) ?_ | refine .mk 32 (by decide +kernel) ?_ | refine .mk 33 (by decide +kernel) ?_ | refine .mk 34 (by decide +kernel) ?_ | refine .mk 35 (by decide +kernel) ?_ | refine .mk 36 (by decide +kernel) ?_ | refine .mk 37 (by decide +kernel) ?_ | refine .mk 38 (by decide +kernel) ?_ | refine .mk 39 (by decide +kernel) ?_ | refine .mk 40 (by decide +kernel) ?_ | refine .mk 41 (by decide +kernel) ?_); (conv => whnf))
        | (refine HOLD.mk (by first | exact trivial | exact ⟨⟨rfl, rfl⟩, trivial⟩ | exact ⟨⟨rfl, rfl⟩, ⟨rfl, rfl⟩, trivial⟩) ?_; (conv => whnf))
        | (refine CALL0.cutBy lvChosen2 _ _ _ _ _ (leL_refl _) (hb ..) rfl ?_; conv => whnf)
        | (refine CALL0.mk _ _ _ _ _ (leL_refl _) (hb ..) rfl ?_; conv => whnf)
        | (refine CALLQ.mk _ _ _ (leL_refl _) (hb ..) rfl ?_; conv => whnf)
        | (refine CALL0.cutBy lvChosen2 _ _ _ _ _ (leL_refl _) (hT' ..) rfl ?_; conv => whnf)
        | (refine CALL0.mk _ _ _ _ _ (leL_refl _) (hT' ..) rfl ?_; conv => whnf)
        | (refine CALLQ.mk _ _ _ (leL_refl _) (hT' ..) rfl ?_; conv => whnf)
      split
      · rename_i h
        exact Bool.noConfusion ((c1).symm.trans h)
      rename_i hN
      clear hN
      conv => whnf
      cases z1 : decide (x + k < P) with
      | true =>
        have c6 := c2 (of_decide_eq_true z1)
        have c7 : (x + k == P) = false := by
          have := of_decide_eq_true z1
          simp; omega
        conv => whnf
        split
        · rename_i h
          exact Bool.noConfusion ((c6).symm.trans h)
        rename_i hN
        clear hN
        conv => whnf
        split
        · rename_i h
          exact Bool.noConfusion ((c7).symm.trans h)
        rename_i hN
        clear hN
        conv => whnf
        split
        · rename_i h
          exact Bool.noConfusion ((c8).symm.trans h)
        rename_i hN
        clear hN
        conv => whnf
        exact ⟨⟨k + 1, hlt⟩, ⟨⟨leV_int hw, leV_refl _, leV_refl _, leV_refl _, leV_refl _, leV_refl _, leV_refl _, leV_refl _, leV_refl _, leV_refl _, trivial⟩, ⟨leL_refl _, leL_refl _, leL_refl _, leL_refl _, trivial⟩, rfl, rfl⟩, (by show N - (k + 1) < N - k; omega)⟩
      | false =>
        conv => whnf
        cases z2 : (x + k == P) with
        | false =>
          conv => whnf
          split
          · rename_i h
            exact Bool.noConfusion ((c8).symm.trans h)
          rename_i hN
          clear hN
          conv => whnf
          exact ⟨⟨k + 1, hlt⟩, ⟨⟨leV_int hw, leV_refl _, leV_refl _, leV_refl _, leV_refl _, leV_refl _, leV_refl _, leV_refl _, leV_refl _, leV_refl _, trivial⟩, ⟨leL_refl _, leL_refl _, leL_refl _, leL_refl _, trivial⟩, rfl, rfl⟩, (by show N - (k + 1) < N - k; omega)⟩
        | true =>
          obtain ⟨c6, c7⟩ := c3 (by simpa using z2)
          conv => whnf
          split
          · rename_i h
            exact Bool.noConfusion (((show (!(m1 == T1 && (m2 == T2 && true))) = false by simp [c6, c7])).symm.trans h)
          rename_i hN
          clear hN
          conv => whnf
          split
          · rename_i h
            exact Bool.noConfusion ((c8).symm.trans h)
          rename_i hN
          clear hN
          conv => whnf
          exact ⟨⟨k + 1, hlt⟩, ⟨⟨leV_int hw, leV_refl _, leV_refl _, leV_refl _, leV_refl _, leV_refl _, leV_refl _, leV_refl _, leV_refl _, leV_refl _, trivial⟩, ⟨leL_refl _, leL_refl _, leL_refl _, leL_refl _, trivial⟩, rfl, rfl⟩, (by show N - (k + 1) < N - k; omega)⟩
  · have q : decide (x + k ≤ y) = false := decide_eq_false (by omega)
    have : k = N := by omega
    subst this
    conv => whnf
    split
    · rename_i h
      exact Bool.noConfusion ((q).symm.trans h)
    rename_i hN
    clear hN
    conv => whnf
    cases z5 : (y == 64) with
    | true =>
      conv => whnf
      exact ⟨rfl, rfl⟩
    | false =>
      conv => whnf
      repeat first
        | (show DRAW _ _ _ _ _; (first | refine .mk 0 (by decide +kernel) ?_ | refine .mk 1 (by decide +kernel) ?_ | refine .mk 2 (by decide +kernel) ?_ | refine .mk 3 (by decide +kernel) ?_ | refine .mk 4 (by decide +kernel) ?_ | refine .mk 5 (by decide +kernel) ?_ | refine .mk 6 (by decide +kernel) ?_ | refine .mk 7 (by decide +kernel) ?_ | refine .mk 8 (by decide +kernel) ?_ | refine .mk 9 (by decide +kernel) ?_ | refine .mk 10 (by decide +kernel) ?_ | refine .mk 11 (by decide +kernel) ?_ | refine .mk 12 (by decide +kernel) ?_ | refine .mk 13 (by decide +kernel) ?_ | refine .mk 14 (by decide +kernel) ?_ | refine .mk 15 (by decide +kernel) ?_ | refine .mk 16 (by decide +kernel) ?_ | refine .mk 17 (by decide +kernel) ?_ | refine .mk 18 (by decide +kernel) ?_ | refine .mk 19 (by decide +kernel) ?_ | refine .mk 20 (by decide +kernel) ?_ | refine .mk 21 (by decide +kernel) ?_ | refine .mk 22 (by decide +kernel) ?_ | refine .mk 23 (by decide +kernel) ?_ | refine .mk 24 (by decide +kernel) ?_ | refine .mk 25 (by decide +kernel) ?_ | refine .mk 26 (by decide +kernel) ?_ | refine .mk 27 (by decide +kernel) ?_ | refine .mk 28 (by decide +kernel) ?_ | refine .mk 29 (by decide +kernel) ?_ | refine .mk 30 (by decide +kernel) ?_ | refine .mk 31 (by decide +kernel) ?_ | refine .mk 32 (by decide +kernel) ?_ | refine .mk 33 (by decide +kernel) ?_ | refine .mk 34 (by decide +kernel) ?_ | refine .mk 35 (by decide +kernel) ?_ | refine .mk 36 (by decide +kernel) ?_ | refine .mk 37 (by decide +kernel) ?_ | refine .mk 38 (by decide +kernel) ?_ | refine .mk 39 (by decide +kernel) ?_ | refine .mk 40 (by decide +kernel) ?_ | refine .mk 41 (by decide +kernel) ?_); (conv => whnf))
        | (refine HOLD.mk (by first | exact trivial | exact ⟨⟨rfl, rfl⟩, trivial⟩ | exact ⟨⟨rfl, rfl⟩, ⟨rfl, rfl⟩, trivial⟩) ?_; (conv => whnf))
        | (refine CALL0.cutBy lvChosen2 _ _ _ _ _ (leL_refl _) (hb ..) rfl ?_; conv => whnf)
        | (refine CALL0.mk _ _ _ _ _ (leL_refl _) (hb ..) rfl ?_; conv => whnf)
        | (refine CALLQ.mk _ _ _ (leL_refl _) (hb ..) rfl ?_; conv => whnf)
      refine .thaw (liveOf lvChosen2 260) 260 rfl [.lst none 1 b.nl fun i => [.int .i64 (b.lf i)], .lst none 1 b.nd fun i => [.int .i64 (b.df i)]] 4 b.nr 20 (fun i => [.int .i64 (b.r1 i), .int .i64 (b.r2 i), .int .i64 (b.r3 i), .int .i64 (b.r4 i)])
        (leL_refl _) rfl (fun i _ => rfl) hpos (fun vs hv _ => ?_) rfl (fun j cc bb => ?_)
      · match vs, hv with
        | [v1, v2], _ => exact c_told [] b.nr hnn b.r1 b.r2 b.r3 b.r4 v1 v2
      conv => whnf
      have hft := flat_tag (t := 260) (e := 4) (n := b.nr) (m := j) (f := fun i => [.int .i64 (b.r1 i), .int .i64 (b.r2 i), .int .i64 (b.r3 i), .int .i64 (b.r4 i)]) (fun i _ => rfl)
      split
      · rename_i h
        exact absurd h (by simp [tmTag, ceTag, hasTag, hasTagL, hft])
      rename_i hN
      clear hN
      conv => whnf
      clear hft
      have hcl : ∀ k, clL [15, 260, 8, 5, 4, 3] (flatR 4 b.nr (twF b k) ++ List.replicate j .dead) = true := fun k => flat_cl (fun i _ => rfl)
      refine .mk (α := {i : Nat // i ≤ b.nr ∧ ∀ z, z < i → b.r3 z ≠ -64}) (fun i => ⟨[(264, .int .i64 i.1), (263, .int .i64 b.nr), (15, .ptr 0 15 0), (7, .int .i64 P), (9, .int .i64 0), (4, .ptr 0 4 0), (5, .ptr 0 5 0), (8, .ptr 0 8 0), (6, .bool false)],
        [(15, [.lst none 1 b.nl fun i => [.int .i64 (b.lf i)], .lst none 1 b.nd fun i => [.int .i64 (b.df i)], .row 260 4 b.nr cc bb]),
         (260, flatR 4 b.nr (twF b i.1) ++ List.replicate j .dead),
         (8, [.int .i64 T1, .int .i64 T2]), (5, [.int .i64 d, .int .i64 x, .int .i64 y, .int .i64 m]), (4, [.int .i64 f.w, .int .i64 f.s, .int .i64 f.p]),
         (3, [.lst none 1 b.nl fun i => [.int .i64 (b.lf i)], .lst none 1 b.nd fun i => [.int .i64 (b.df i)], .lst none 4 b.nr fun i => [.int .i64 (b.r1 i), .int .i64 (b.r2 i), .int .i64 (b.r3 i), .int .i64 (b.r4 i)]])], up⟩) (fun i => b.nr - i.1) ⟨0, Nat.zero_le _, fun z hz => by omega⟩ ⟨?_, ?_, rfl, ?_⟩ ?_
      · exact ⟨leV_refl _, leV_refl _, leV_refl _, leV_refl _, leV_refl _, leV_refl _, leV_refl _, leV_refl _, leV_refl _, trivial⟩
      · exact ⟨leL_refl _, leL_refl _, leL_refl _, leL_refl _, leL_refl _, leL_refl _, trivial⟩
      · simp [clT, clC, clL, clV, keys, hcl]
      rintro ⟨i, hi, hi64⟩
      have hiw : w64 ((i : Int) + 1) = ((i + 1 : Nat) : Int) := by rw [w64, wrap_in] <;> omega
      by_cases hin : i < b.nr
      · have q : decide ((i : Int) < b.nr) = true := decide_eq_true (by omega)
        have hc := tw_nth (b := b) (j := j) hin
        have hla := tw_lay (j := j) zB hin
        conv => whnf
        split
        rotate_left
        · rename_i h
          exact Bool.noConfusion ((q).symm.trans h)
        rename_i hN
        clear hN
        conv => whnf
        split
        rotate_left
        · rename_i h
          exact Bool.noConfusion ((q).symm.trans h)
        rename_i hN
        clear hN
        conv => whnf
        split
        rotate_left
        · rename_i h; exact absurd (hc.symm.trans h) nofun
        rename_i c0 h
        obtain rfl := Option.some.inj (hc.symm.trans h)
        clear h
        conv => whnf
        cases z6 : (b.r3 i == -64) with
        | true =>
          conv => whnf
          exact ⟨rfl, rfl⟩
        | false =>
          conv => whnf
          split
          rotate_left
          · rename_i h
            exact Bool.noConfusion ((q).symm.trans h)
          rename_i hN
          clear hN
          conv => whnf
          split
          rotate_left
          · rename_i h; exact absurd (hc.symm.trans h) nofun
          rename_i c0 h
          obtain rfl := Option.some.inj (hc.symm.trans h)
          clear h
          conv => whnf
          split
          rotate_left
          · rename_i h
            exact Bool.noConfusion ((q).symm.trans h)
          rename_i hN
          clear hN
          conv => whnf
          have hc := hla
          split
          rotate_left
          · rename_i h; exact absurd (hc.symm.trans h) nofun
          rename_i c0 h
          obtain rfl := Option.some.inj (hc.symm.trans h)
          clear h
          conv => whnf
          have hi2 : ∀ z, z < i + 1 → b.r3 z ≠ -64 := fun z hz => by
            by_cases hzi : z = i
            · subst hzi; intro h; rw [h] at z6; cases z6
            · exact hi64 z (by omega)
          refine ⟨⟨i + 1, hin, hi2⟩, ⟨⟨leV_int hiw, leV_refl _, leV_refl _, leV_refl _, leV_refl _, leV_refl _, leV_refl _, leV_refl _, leV_refl _, trivial⟩, ⟨leL_refl _, leL_refl _, leL_refl _, leL_refl _, leL_refl _, leL_refl _, trivial⟩, rfl, ?_⟩, (by show b.nr - (i + 1) < b.nr - i; omega)⟩
          simp [clT, clC, clL, clV, keys, hcl]
      · have q : decide ((i : Int) < b.nr) = false := decide_eq_false (by omega)
        have hin2 : i = b.nr := by omega
        subst hin2
        have hy : y < 64 := by
          have : y ≠ 64 := fun h => by rw [h] at z5; cases z5
          omega
        have hBt := fun up => c_Best (gl := gl) up b.tw f d (x + 1) (y + 1)
        rw [hTw hy hi64] at hBt
        have hwx : w64 (x + 1) = x + 1 := by rw [w64, wrap_in] <;> omega
        have hwy : w64 (y + 1) = y + 1 := by rw [w64, wrap_in] <;> omega
        have hwP : w64 (P + 1) = P + 1 := by rw [w64, wrap_in] <;> omega
        rw [← hwx, ← hwy] at hBt
        have hbt := fun up => c_blade (gl := gl) up b.tw hl hdd hnn
        conv => whnf
        split
        · rename_i h
          exact Bool.noConfusion ((q).symm.trans h)
        rename_i hN
        clear hN
        conv => whnf
        refine DRAW.mkR 260 4 b.nr (twF b b.nr) (List.replicate j .dead) rfl (fun i _ => ⟨rfl, rfl⟩) 17 (by decide +kernel) (by simp [rowT, rowV]) (by simp [rowC, rowV, rowVL]) ?_
        conv => whnf
        refine .mk _ _ _ ?_ (hbt _) rfl ?_
        · refine ⟨⟨leV_refl _, leV_refl _, ⟨.inl rfl, rfl, rfl, fun z hz => ?_⟩, trivial⟩, trivial⟩
          show [_, _, _, _] = [_, _, _, _]
          rw [if_pos hz]
          rfl
        conv => whnf
        repeat first
          | (show DRAW _ _ _ _ _; (first | refine .mk 0 (by decide +kernel) ?_ | refine .mk 1 (by decide +kernel) ?_ | refine .mk 2 (by decide +kernel) ?_ | refine .mk 3 (by decide +kernel) ?_ | refine .mk 4 (by decide +kernel) ?_ | refine .mk 5 (by decide +kernel) ?_ | refine .mk 6 (by decide +kernel) ?_ | refine .mk 7 (by decide +kernel) ?_ | refine .mk 8 (by decide +kernel) ?_ | refine .mk 9 (by decide +kernel) ?_ | refine .mk 10 (by decide +kernel) ?_ | refine .mk 11 (by decide +kernel) ?_ | refine .mk 12 (by decide +kernel) ?_ | refine .mk 13 (by decide +kernel) ?_ | refine .mk 14 (by decide +kernel) ?_ | refine .mk 15 (by decide +kernel) ?_ | refine .mk 16 (by decide +kernel) ?_ | refine .mk 17 (by decide +kernel) ?_ | refine .mk 18 (by decide +kernel) ?_ | refine .mk 19 (by decide +kernel) ?_ | refine .mk 20 (by decide +kernel) ?_ | refine .mk 21 (by decide +kernel) ?_ | refine .mk 22 (by decide +kernel) ?_ | refine .mk 23 (by decide +kernel) ?_ | refine .mk 24 (by decide +kernel) ?_ | refine .mk 25 (by decide +kernel) ?_ | refine .mk 26 (by decide +kernel) ?_ | refine .mk 27 (by decide +kernel) ?_ | refine .mk 28 (by decide +kernel) ?_ | refine .mk 29 (by decide +kernel) ?_ | refine .mk 30 (by decide +kernel) ?_ | refine .mk 31 (by decide +kernel) ?_ | refine .mk 32 (by decide +kernel) ?_ | refine .mk 33 (by decide +kernel) ?_ | refine .mk 34 (by decide +kernel) ?_ | refine .mk 35 (by decide +kernel) ?_ | refine .mk 36 (by decide +kernel) ?_ | refine .mk 37 (by decide +kernel) ?_ | refine .mk 38 (by decide +kernel) ?_ | refine .mk 39 (by decide +kernel) ?_ | refine .mk 40 (by decide +kernel) ?_ | refine .mk 41 (by decide +kernel) ?_); (conv => whnf))
          | (refine HOLD.mk (by first | exact trivial | exact ⟨⟨rfl, rfl⟩, trivial⟩ | exact ⟨⟨rfl, rfl⟩, ⟨rfl, rfl⟩, trivial⟩) ?_; (conv => whnf))
          | (refine CALL0.cutBy lvChosen2 _ _ _ _ _ (leL_refl _) (hBt ..) rfl ?_; conv => whnf)
          | (refine CALL0.mk _ _ _ _ _ (leL_refl _) (hBt ..) rfl ?_; conv => whnf)
          | (refine CALLQ.mk _ _ _ (leL_refl _) (hBt ..) rfl ?_; conv => whnf)
        split
        rotate_left
        · rename_i h
          exact Bool.noConfusion (((show (P + 1 == w64 (P + 1)) = true by rw [hwP]; simp)).symm.trans h)
        rename_i hN
        clear hN
        conv => whnf
        exact ⟨by simp, rfl⟩
end Go.Proofs.YtllmejkmogepjaaDoor.Ix

/-
  Ln1: RotorNested: the plain laws, the guards, and where no ring balances.
-/
namespace Go.Proofs.YtllmejkmogepjaaDoor.Ix
open Go.Proofs
set_option maxRecDepth 100000
set_option linter.unusedVariables false
set_option linter.unusedSimpArgs false
variable {gl : Nat → IV}

theorem sumTo_eq {g h : Nat → Int} : ∀ (n : Nat), (∀ i, i < n → g i = h i) → sumTo g n = sumTo h n
  | 0, _ => rfl
  | n + 1, k => by
    simp only [sumTo]
    rw [sumTo_eq n fun i hi => k i (by omega), k n (by omega)]

theorem T_order {b : Bl} {f : Fl} (D : Nat) : (b.T f D).1 ≤ (b.T f D).2 := by
  refine sumTo_le _ fun i hi => ?_
  have h := stepsP_ends (n := b.nl) (lf := b.lf) (df := b.df) (r := b.r1 i) (c := b.r2 i) (t := b.r3 i) (tip := b.r4 i) (p := f.p) (least := inflP (b.r1 i) f.w f.s (b.at f i D + 1) (D + 1)) (most := inflP (b.r1 i) f.w f.s (b.at f i D) (D + 1)) (b.nl + 2) _ (.inl rfl)
  exact Int.le_trans h.1 h.2

theorem F_order {b : Bl} {f : Fl} (g : Good b f) (h : allBr b f 0) (D : Nat) : (b.F f D).1 ≤ (b.F f D).2 := by
  refine sumTo_le _ fun i hi => ?_
  have ok := g.all.2.2.2 i hi
  obtain ⟨a1, a2, _, _⟩ := at_br ok (br_some_all (h i hi) D)
  have hs := Int.pow_succ (2 : Int) D
  exact thrustP_mono (r := b.r1 i) (d := D + 1) (by have := ok.r; omega) (a := b.at f i D) (b := b.at f i D + 1) (by omega) (by omega)

theorem at_ch {b : Bl} {f : Fl} {i D : Nat} (h : b.r4 i % 2 = 0) : b.ch.at f i D = b.at f i D := by
  unfold Bl.at
  rw [br_ch b f i D h]

theorem T_ch {b : Bl} {f : Fl} (h : ∀ i, i < b.nr → b.r4 i % 2 = 0) (D : Nat) : b.ch.T f D = b.T f D := by
  unfold Bl.T
  refine Prod.ext (sumTo_eq _ fun i hi => ?_) (sumTo_eq _ fun i hi => ?_)
  · rw [at_ch (h i hi), tor_ch b f i _ _ (h i hi)]
  · rw [at_ch (h i hi), tor_ch b f i _ _ (h i hi)]

theorem F_ch {b : Bl} {f : Fl} (h : ∀ i, i < b.nr → b.r4 i % 2 = 0) (D : Nat) : b.ch.F f D = b.F f D := by
  unfold Bl.F
  refine Prod.ext (sumTo_eq _ fun i hi => ?_) (sumTo_eq _ fun i hi => ?_)
  · rw [at_ch (h i hi)]; rfl
  · rw [at_ch (h i hi)]; rfl

theorem allBr_ch {b : Bl} {f : Fl} (h : ∀ i, i < b.nr → b.r4 i % 2 = 0) (hb : allBr b f 0) : allBr b.ch f 0 := fun i hi => by
  rw [br_ch b f i 0 (h i hi)]
  exact hb i hi

/-- What is read behind each call. -/
def lvNested : List (Nat × List Nat) := [(26, [2, 3, 4, 6, 7, 8, 9, 10, 11, 26]), (31, [2, 3, 4, 6, 7, 8, 9, 10, 11, 28, 31]), (36, [2, 3, 4, 6, 7, 8, 9, 10, 11, 34, 36]), (41, [2, 3, 4, 6, 7, 8, 9, 10, 11, 39, 41]), (52, [2, 3, 4, 6, 7, 8, 9, 10, 11, 52]), (55, [2, 3, 4, 6, 7, 8, 9, 10, 11, 55]), (58, [2, 3, 4, 6, 7, 8, 9, 10, 11, 58]), (63, [2, 3, 4, 6, 7, 8, 9, 10, 11, 63]), (67, [2, 3, 4, 6, 7, 8, 9, 10, 11, 67]), (72, [2, 3, 4, 6, 7, 8, 9, 10, 11, 72]), (75, [2, 3, 4, 6, 7, 8, 9, 10, 11, 75]), (80, [2, 3, 4, 6, 7, 8, 9, 10, 11, 12, 80]), (84, [2, 3, 4, 6, 7, 8, 9, 10, 11, 12, 84]), (89, [2, 3, 4, 6, 7, 8, 9, 10, 11, 12, 13, 14, 89]), (92, [2, 3, 4, 6, 7, 8, 9, 10, 11, 12, 13, 14, 92]), (190, [2, 3, 4, 6, 7, 9, 11, 13, 17, 21, 123, 124, 125, 190]), (191, [2, 3, 4, 6, 7, 9, 11, 13, 17, 21, 123, 124, 125, 191]), (243, [2, 4, 6, 7, 11, 20, 243]), (246, [2, 4, 6, 7, 11, 20, 246]), (251, [2, 4, 6, 7, 11, 22, 23, 251]), (254, [6, 7, 11, 22, 23, 254])]
set_option maxHeartbeats 8000000 in
/-- Where the law asks nothing. -/
theorem nested_guard (up : List Ces) (hr : gl g_rotor_roots = rootsI) (hp : gl g_internal_strconv_uint64pow10 = powI) (b : Bl) (f : Fl) (d : Int)
    (H : lightB b f = true → b.err = 0 → f.err = 0 → 1 ≤ d → d < 12 →
      Cs gl n_nacellelaw03_RotorNested up [b.iv, f.iv, .int .i64 d] (.bool true) up) :
    Cs gl n_nacellelaw03_RotorNested up [b.iv, f.iv, .int .i64 d] (.bool true) up := by
  have hA := fun up => c_awake (gl := gl) up hr hp
  have hS := fun up => c_light (gl := gl) up b f
  have hE := fun up => c_rCheckBlade (gl := gl) up b
  have hFl := fun up => c_rCheckFlow (gl := gl) up f.w f.s f.p
  cases hs : lightB b f with
  | false =>
    rw [hs] at hS
    refine mk h_nacellelaw03_RotorNested rfl rfl ?_
    conv => whnf
    repeat first
      | (show DRAW _ _ _ _ _; (first | refine .mk 0 (by decide +kernel) ?_ | refine .mk 1 (by decide +kernel) ?_ | refine .mk 2 (by decide +kernel) ?_ | refine .mk 3 (by decide +kernel) ?_ | refine .mk 4 (by decide +kernel) ?_ | refine .mk 5 (by decide +kernel) ?_ | refine .mk 6 (by decide +kernel) ?_ | refine .mk 7 (by decide +kernel) ?_ | refine .mk 8 (by decide +kernel) ?_ | refine .mk 9 (by decide +kernel) ?_ | refine .mk 10 (by decide +kernel) ?_ | refine .mk 11 (by decide +kernel) ?_ | refine .mk 12 (by decide +kernel) ?_ | refine .mk 13 (by decide +kernel) ?_ | refine .mk 14 (by decide +kernel) ?_ | refine .mk 15 (by decide +kernel) ?_ | refine .mk 16 (by decide +kernel) ?_ | refine .mk 17 (by decide +kernel) ?_ | refine .mk 18 (by decide +kernel) ?_ | refine .mk 19 (by decide +kernel) ?_ | refine .mk 20 (by decide +kernel) ?_ | refine .mk 21 (by decide +kernel) ?_ | refine .mk 22 (by decide +kernel) ?_ | refine .mk 23 (by decide +kernel) ?_ | refine .mk 24 (by decide +kernel) ?_ | refine .mk 25 (by decide +kernel) ?_ | refine .mk 26 (by decide +kernel) ?_ | refine .mk 27 (by decide +kernel) ?_ | refine .mk 28 (by decide +kernel) ?_ | refine .mk 29 (by decide +kernel) ?_ | refine .mk 30 (by decide +kernel) ?_ | refine .mk 31 (by decide +kernel) ?_ | refine .mk 32 (by decide +kernel) ?_ | refine .mk 33 (by decide +kernel) ?_ | refine .mk 34 (by decide +kernel) ?_ | refine .mk 35 (by decide +kernel) ?_ | refine .mk 36 (by decide +kernel) ?_ | refine .mk 37 (by decide +kernel) ?_ | refine .mk 38 (by decide +kernel) ?_ | refine .mk 39 (by decide +kernel) ?_ | refine .mk 40 (by decide +kernel) ?_ | refine .mk 41 (by decide +kernel) ?_); (conv => whnf))
      | (refine HOLD.mk (by first | exact trivial | exact ⟨⟨rfl, rfl⟩, trivial⟩ | exact ⟨⟨rfl, rfl⟩, ⟨rfl, rfl⟩, trivial⟩) ?_; (conv => whnf))
      | (refine CALL0.cutBy lvNested _ _ _ _ _ (leL_refl _) (hA ..) rfl ?_; conv => whnf)
      | (refine CALL0.mk _ _ _ _ _ (leL_refl _) (hA ..) rfl ?_; conv => whnf)
      | (refine CALLQ.mk _ _ _ (leL_refl _) (hA ..) rfl ?_; conv => whnf)
      | (refine CALL0.cutBy lvNested _ _ _ _ _ (leL_refl _) (hS ..) rfl ?_; conv => whnf)
      | (refine CALL0.mk _ _ _ _ _ (leL_refl _) (hS ..) rfl ?_; conv => whnf)
      | (refine CALLQ.mk _ _ _ (leL_refl _) (hS ..) rfl ?_; conv => whnf)
    exact ⟨rfl, rfl⟩
  | true =>
  rw [hs] at hS
  by_cases zB : b.err = 0
  rotate_left
  · have q : (b.err != 0) = true := by simpa using zB
    refine mk h_nacellelaw03_RotorNested rfl rfl ?_
    conv => whnf
    repeat first
      | (show DRAW _ _ _ _ _; (first | refine .mk 0 (by decide +kernel) ?_ | refine .mk 1 (by decide +kernel) ?_ | refine .mk 2 (by decide +kernel) ?_ | refine .mk 3 (by decide +kernel) ?_ | refine .mk 4 (by decide +kernel) ?_ | refine .mk 5 (by decide +kernel) ?_ | refine .mk 6 (by decide +kernel) ?_ | refine .mk 7 (by decide +kernel) ?_ | refine .mk 8 (by decide +kernel) ?_ | refine .mk 9 (by decide +kernel) ?_ | refine .mk 10 (by decide +kernel) ?_ | refine .mk 11 (by decide +kernel) ?_ | refine .mk 12 (by decide +kernel) ?_ | refine .mk 13 (by decide +kernel) ?_ | refine .mk 14 (by decide +kernel) ?_ | refine .mk 15 (by decide +kernel) ?_ | refine .mk 16 (by decide +kernel) ?_ | refine .mk 17 (by decide +kernel) ?_ | refine .mk 18 (by decide +kernel) ?_ | refine .mk 19 (by decide +kernel) ?_ | refine .mk 20 (by decide +kernel) ?_ | refine .mk 21 (by decide +kernel) ?_ | refine .mk 22 (by decide +kernel) ?_ | refine .mk 23 (by decide +kernel) ?_ | refine .mk 24 (by decide +kernel) ?_ | refine .mk 25 (by decide +kernel) ?_ | refine .mk 26 (by decide +kernel) ?_ | refine .mk 27 (by decide +kernel) ?_ | refine .mk 28 (by decide +kernel) ?_ | refine .mk 29 (by decide +kernel) ?_ | refine .mk 30 (by decide +kernel) ?_ | refine .mk 31 (by decide +kernel) ?_ | refine .mk 32 (by decide +kernel) ?_ | refine .mk 33 (by decide +kernel) ?_ | refine .mk 34 (by decide +kernel) ?_ | refine .mk 35 (by decide +kernel) ?_ | refine .mk 36 (by decide +kernel) ?_ | refine .mk 37 (by decide +kernel) ?_ | refine .mk 38 (by decide +kernel) ?_ | refine .mk 39 (by decide +kernel) ?_ | refine .mk 40 (by decide +kernel) ?_ | refine .mk 41 (by decide +kernel) ?_); (conv => whnf))
      | (refine HOLD.mk (by first | exact trivial | exact ⟨⟨rfl, rfl⟩, trivial⟩ | exact ⟨⟨rfl, rfl⟩, ⟨rfl, rfl⟩, trivial⟩) ?_; (conv => whnf))
      | (refine CALL0.cutBy lvNested _ _ _ _ _ (leL_refl _) (hA ..) rfl ?_; conv => whnf)
      | (refine CALL0.mk _ _ _ _ _ (leL_refl _) (hA ..) rfl ?_; conv => whnf)
      | (refine CALLQ.mk _ _ _ (leL_refl _) (hA ..) rfl ?_; conv => whnf)
      | (refine CALL0.cutBy lvNested _ _ _ _ _ (leL_refl _) (hS ..) rfl ?_; conv => whnf)
      | (refine CALL0.mk _ _ _ _ _ (leL_refl _) (hS ..) rfl ?_; conv => whnf)
      | (refine CALLQ.mk _ _ _ (leL_refl _) (hS ..) rfl ?_; conv => whnf)
      | (refine CALL0.cutBy lvNested _ _ _ _ _ (leL_refl _) (hE ..) rfl ?_; conv => whnf)
      | (refine CALL0.mk _ _ _ _ _ (leL_refl _) (hE ..) rfl ?_; conv => whnf)
      | (refine CALLQ.mk _ _ _ (leL_refl _) (hE ..) rfl ?_; conv => whnf)
    split
    rotate_left
    · rename_i h
      exact Bool.noConfusion ((q).symm.trans h)
    rename_i hN
    clear hN
    conv => whnf
    repeat first
      | (show DRAW _ _ _ _ _; (first | refine .mk 0 (by decide +kernel) ?_ | refine .mk 1 (by decide +kernel) ?_ | refine .mk 2 (by decide +kernel) ?_ | refine .mk 3 (by decide +kernel) ?_ | refine .mk 4 (by decide +kernel) ?_ | refine .mk 5 (by decide +kernel) ?_ | refine .mk 6 (by decide +kernel) ?_ | refine .mk 7 (by decide +kernel) ?_ | refine .mk 8 (by decide +kernel) ?_ | refine .mk 9 (by decide +kernel) ?_ | refine .mk 10 (by decide +kernel) ?_ | refine .mk 11 (by decide +kernel) ?_ | refine .mk 12 (by decide +kernel) ?_ | refine .mk 13 (by decide +kernel) ?_ | refine .mk 14 (by decide +kernel) ?_ | refine .mk 15 (by decide +kernel) ?_ | refine .mk 16 (by decide +kernel) ?_ | refine .mk 17 (by decide +kernel) ?_ | refine .mk 18 (by decide +kernel) ?_ | refine .mk 19 (by decide +kernel) ?_ | refine .mk 20 (by decide +kernel) ?_ | refine .mk 21 (by decide +kernel) ?_ | refine .mk 22 (by decide +kernel) ?_ | refine .mk 23 (by decide +kernel) ?_ | refine .mk 24 (by decide +kernel) ?_ | refine .mk 25 (by decide +kernel) ?_ | refine .mk 26 (by decide +kernel) ?_ | refine .mk 27 (by decide +kernel) ?_ | refine .mk 28 (by decide +kernel) ?_ | refine .mk 29 (by decide +kernel) ?_ | refine .mk 30 (by decide +kernel) ?_ | refine .mk 31 (by decide +kernel) ?_ | refine .mk 32 (by decide +kernel) ?_ | refine .mk 33 (by decide +kernel) ?_ | refine .mk 34 (by decide +kernel) ?_ | refine .mk 35 (by decide +kernel) ?_ | refine .mk 36 (by decide +kernel) ?_ | refine .mk 37 (by decide +kernel) ?_ | refine .mk 38 (by decide +kernel) ?_ | refine .mk 39 (by decide +kernel) ?_ | refine .mk 40 (by decide +kernel) ?_ | refine .mk 41 (by decide +kernel) ?_); (conv => whnf))
      | (refine HOLD.mk (by first | exact trivial | exact ⟨⟨rfl, rfl⟩, trivial⟩ | exact ⟨⟨rfl, rfl⟩, ⟨rfl, rfl⟩, trivial⟩) ?_; (conv => whnf))
      | (refine CALL0.cutBy lvNested _ _ _ _ _ (leL_refl _) (hA ..) rfl ?_; conv => whnf)
      | (refine CALL0.mk _ _ _ _ _ (leL_refl _) (hA ..) rfl ?_; conv => whnf)
      | (refine CALLQ.mk _ _ _ (leL_refl _) (hA ..) rfl ?_; conv => whnf)
    exact ⟨rfl, rfl⟩
  rw [zB] at hE
  by_cases zF : f.err = 0
  rotate_left
  · have q : (flowS f.w f.s f.p != 0) = true := by simpa [Fl.err] using zF
    refine mk h_nacellelaw03_RotorNested rfl rfl ?_
    conv => whnf
    repeat first
      | (show DRAW _ _ _ _ _; (first | refine .mk 0 (by decide +kernel) ?_ | refine .mk 1 (by decide +kernel) ?_ | refine .mk 2 (by decide +kernel) ?_ | refine .mk 3 (by decide +kernel) ?_ | refine .mk 4 (by decide +kernel) ?_ | refine .mk 5 (by decide +kernel) ?_ | refine .mk 6 (by decide +kernel) ?_ | refine .mk 7 (by decide +kernel) ?_ | refine .mk 8 (by decide +kernel) ?_ | refine .mk 9 (by decide +kernel) ?_ | refine .mk 10 (by decide +kernel) ?_ | refine .mk 11 (by decide +kernel) ?_ | refine .mk 12 (by decide +kernel) ?_ | refine .mk 13 (by decide +kernel) ?_ | refine .mk 14 (by decide +kernel) ?_ | refine .mk 15 (by decide +kernel) ?_ | refine .mk 16 (by decide +kernel) ?_ | refine .mk 17 (by decide +kernel) ?_ | refine .mk 18 (by decide +kernel) ?_ | refine .mk 19 (by decide +kernel) ?_ | refine .mk 20 (by decide +kernel) ?_ | refine .mk 21 (by decide +kernel) ?_ | refine .mk 22 (by decide +kernel) ?_ | refine .mk 23 (by decide +kernel) ?_ | refine .mk 24 (by decide +kernel) ?_ | refine .mk 25 (by decide +kernel) ?_ | refine .mk 26 (by decide +kernel) ?_ | refine .mk 27 (by decide +kernel) ?_ | refine .mk 28 (by decide +kernel) ?_ | refine .mk 29 (by decide +kernel) ?_ | refine .mk 30 (by decide +kernel) ?_ | refine .mk 31 (by decide +kernel) ?_ | refine .mk 32 (by decide +kernel) ?_ | refine .mk 33 (by decide +kernel) ?_ | refine .mk 34 (by decide +kernel) ?_ | refine .mk 35 (by decide +kernel) ?_ | refine .mk 36 (by decide +kernel) ?_ | refine .mk 37 (by decide +kernel) ?_ | refine .mk 38 (by decide +kernel) ?_ | refine .mk 39 (by decide +kernel) ?_ | refine .mk 40 (by decide +kernel) ?_ | refine .mk 41 (by decide +kernel) ?_); (conv => whnf))
      | (refine HOLD.mk (by first | exact trivial | exact ⟨⟨rfl, rfl⟩, trivial⟩ | exact ⟨⟨rfl, rfl⟩, ⟨rfl, rfl⟩, trivial⟩) ?_; (conv => whnf))
      | (refine CALL0.cutBy lvNested _ _ _ _ _ (leL_refl _) (hA ..) rfl ?_; conv => whnf)
      | (refine CALL0.mk _ _ _ _ _ (leL_refl _) (hA ..) rfl ?_; conv => whnf)
      | (refine CALLQ.mk _ _ _ (leL_refl _) (hA ..) rfl ?_; conv => whnf)
      | (refine CALL0.cutBy lvNested _ _ _ _ _ (leL_refl _) (hS ..) rfl ?_; conv => whnf)
      | (refine CALL0.mk _ _ _ _ _ (leL_refl _) (hS ..) rfl ?_; conv => whnf)
      | (refine CALLQ.mk _ _ _ (leL_refl _) (hS ..) rfl ?_; conv => whnf)
      | (refine CALL0.cutBy lvNested _ _ _ _ _ (leL_refl _) (hE ..) rfl ?_; conv => whnf)
      | (refine CALL0.mk _ _ _ _ _ (leL_refl _) (hE ..) rfl ?_; conv => whnf)
      | (refine CALLQ.mk _ _ _ (leL_refl _) (hE ..) rfl ?_; conv => whnf)
      | (refine CALL0.cutBy lvNested _ _ _ _ _ (leL_refl _) (hFl ..) rfl ?_; conv => whnf)
      | (refine CALL0.mk _ _ _ _ _ (leL_refl _) (hFl ..) rfl ?_; conv => whnf)
      | (refine CALLQ.mk _ _ _ (leL_refl _) (hFl ..) rfl ?_; conv => whnf)
    split
    rotate_left
    · rename_i h
      exact Bool.noConfusion ((q).symm.trans h)
    rename_i hN
    clear hN
    conv => whnf
    repeat first
      | (show DRAW _ _ _ _ _; (first | refine .mk 0 (by decide +kernel) ?_ | refine .mk 1 (by decide +kernel) ?_ | refine .mk 2 (by decide +kernel) ?_ | refine .mk 3 (by decide +kernel) ?_ | refine .mk 4 (by decide +kernel) ?_ | refine .mk 5 (by decide +kernel) ?_ | refine .mk 6 (by decide +kernel) ?_ | refine .mk 7 (by decide +kernel) ?_ | refine .mk 8 (by decide +kernel) ?_ | refine .mk 9 (by decide +kernel) ?_ | refine .mk 10 (by decide +kernel) ?_ | refine .mk 11 (by decide +kernel) ?_ | refine .mk 12 (by decide +kernel) ?_ | refine .mk 13 (by decide +kernel) ?_ | refine .mk 14 (by decide +kernel) ?_ | refine .mk 15 (by decide +kernel) ?_ | refine .mk 16 (by decide +kernel) ?_ | refine .mk 17 (by decide +kernel) ?_ | refine .mk 18 (by decide +kernel) ?_ | refine .mk 19 (by decide +kernel) ?_ | refine .mk 20 (by decide +kernel) ?_ | refine .mk 21 (by decide +kernel) ?_ | refine .mk 22 (by decide +kernel) ?_ | refine .mk 23 (by decide +kernel) ?_ | refine .mk 24 (by decide +kernel) ?_ | refine .mk 25 (by decide +kernel) ?_ | refine .mk 26 (by decide +kernel) ?_ | refine .mk 27 (by decide +kernel) ?_ | refine .mk 28 (by decide +kernel) ?_ | refine .mk 29 (by decide +kernel) ?_ | refine .mk 30 (by decide +kernel) ?_ | refine .mk 31 (by decide +kernel) ?_ | refine .mk 32 (by decide +kernel) ?_ | refine .mk 33 (by decide +kernel) ?_ | refine .mk 34 (by decide +kernel) ?_ | refine .mk 35 (by decide +kernel) ?_ | refine .mk 36 (by decide +kernel) ?_ | refine .mk 37 (by decide +kernel) ?_ | refine .mk 38 (by decide +kernel) ?_ | refine .mk 39 (by decide +kernel) ?_ | refine .mk 40 (by decide +kernel) ?_ | refine .mk 41 (by decide +kernel) ?_); (conv => whnf))
      | (refine HOLD.mk (by first | exact trivial | exact ⟨⟨rfl, rfl⟩, trivial⟩ | exact ⟨⟨rfl, rfl⟩, ⟨rfl, rfl⟩, trivial⟩) ?_; (conv => whnf))
      | (refine CALL0.cutBy lvNested _ _ _ _ _ (leL_refl _) (hA ..) rfl ?_; conv => whnf)
      | (refine CALL0.mk _ _ _ _ _ (leL_refl _) (hA ..) rfl ?_; conv => whnf)
      | (refine CALLQ.mk _ _ _ (leL_refl _) (hA ..) rfl ?_; conv => whnf)
    exact ⟨rfl, rfl⟩
  have zF' : flowS f.w f.s f.p = 0 := zF
  rw [zF'] at hFl
  cases q1 : decide (d < 1) with
  | true =>
    refine mk h_nacellelaw03_RotorNested rfl rfl ?_
    conv => whnf
    repeat first
      | (show DRAW _ _ _ _ _; (first | refine .mk 0 (by decide +kernel) ?_ | refine .mk 1 (by decide +kernel) ?_ | refine .mk 2 (by decide +kernel) ?_ | refine .mk 3 (by decide +kernel) ?_ | refine .mk 4 (by decide +kernel) ?_ | refine .mk 5 (by decide +kernel) ?_ | refine .mk 6 (by decide +kernel) ?_ | refine .mk 7 (by decide +kernel) ?_ | refine .mk 8 (by decide +kernel) ?_ | refine .mk 9 (by decide +kernel) ?_ | refine .mk 10 (by decide +kernel) ?_ | refine .mk 11 (by decide +kernel) ?_ | refine .mk 12 (by decide +kernel) ?_ | refine .mk 13 (by decide +kernel) ?_ | refine .mk 14 (by decide +kernel) ?_ | refine .mk 15 (by decide +kernel) ?_ | refine .mk 16 (by decide +kernel) ?_ | refine .mk 17 (by decide +kernel) ?_ | refine .mk 18 (by decide +kernel) ?_ | refine .mk 19 (by decide +kernel) ?_ | refine .mk 20 (by decide +kernel) ?_ | refine .mk 21 (by decide +kernel) ?_ | refine .mk 22 (by decide +kernel) ?_ | refine .mk 23 (by decide +kernel) ?_ | refine .mk 24 (by decide +kernel) ?_ | refine .mk 25 (by decide +kernel) ?_ | refine .mk 26 (by decide +kernel) ?_ | refine .mk 27 (by decide +kernel) ?_ | refine .mk 28 (by decide +kernel) ?_ | refine .mk 29 (by decide +kernel) ?_ | refine .mk 30 (by decide +kernel) ?_ | refine .mk 31 (by decide +kernel) ?_ | refine .mk 32 (by decide +kernel) ?_ | refine .mk 33 (by decide +kernel) ?_ | refine .mk 34 (by decide +kernel) ?_ | refine .mk 35 (by decide +kernel) ?_ | refine .mk 36 (by decide +kernel) ?_ | refine .mk 37 (by decide +kernel) ?_ | refine .mk 38 (by decide +kernel) ?_ | refine .mk 39 (by decide +kernel) ?_ | refine .mk 40 (by decide +kernel) ?_ | refine .mk 41 (by decide +kernel) ?_); (conv => whnf))
      | (refine HOLD.mk (by first | exact trivial | exact ⟨⟨rfl, rfl⟩, trivial⟩ | exact ⟨⟨rfl, rfl⟩, ⟨rfl, rfl⟩, trivial⟩) ?_; (conv => whnf))
      | (refine CALL0.cutBy lvNested _ _ _ _ _ (leL_refl _) (hA ..) rfl ?_; conv => whnf)
      | (refine CALL0.mk _ _ _ _ _ (leL_refl _) (hA ..) rfl ?_; conv => whnf)
      | (refine CALLQ.mk _ _ _ (leL_refl _) (hA ..) rfl ?_; conv => whnf)
      | (refine CALL0.cutBy lvNested _ _ _ _ _ (leL_refl _) (hS ..) rfl ?_; conv => whnf)
      | (refine CALL0.mk _ _ _ _ _ (leL_refl _) (hS ..) rfl ?_; conv => whnf)
      | (refine CALLQ.mk _ _ _ (leL_refl _) (hS ..) rfl ?_; conv => whnf)
      | (refine CALL0.cutBy lvNested _ _ _ _ _ (leL_refl _) (hE ..) rfl ?_; conv => whnf)
      | (refine CALL0.mk _ _ _ _ _ (leL_refl _) (hE ..) rfl ?_; conv => whnf)
      | (refine CALLQ.mk _ _ _ (leL_refl _) (hE ..) rfl ?_; conv => whnf)
      | (refine CALL0.cutBy lvNested _ _ _ _ _ (leL_refl _) (hFl ..) rfl ?_; conv => whnf)
      | (refine CALL0.mk _ _ _ _ _ (leL_refl _) (hFl ..) rfl ?_; conv => whnf)
      | (refine CALLQ.mk _ _ _ (leL_refl _) (hFl ..) rfl ?_; conv => whnf)
    split
    rotate_left
    · rename_i h
      exact Bool.noConfusion ((q1).symm.trans h)
    rename_i hN
    clear hN
    conv => whnf
    repeat first
      | (show DRAW _ _ _ _ _; (first | refine .mk 0 (by decide +kernel) ?_ | refine .mk 1 (by decide +kernel) ?_ | refine .mk 2 (by decide +kernel) ?_ | refine .mk 3 (by decide +kernel) ?_ | refine .mk 4 (by decide +kernel) ?_ | refine .mk 5 (by decide +kernel) ?_ | refine .mk 6 (by decide +kernel) ?_ | refine .mk 7 (by decide +kernel) ?_ | refine .mk 8 (by decide +kernel) ?_ | refine .mk 9 (by decide +kernel) ?_ | refine .mk 10 (by decide +kernel) ?_ | refine .mk 11 (by decide +kernel) ?_ | refine .mk 12 (by decide +kernel) ?_ | refine .mk 13 (by decide +kernel) ?_ | refine .mk 14 (by decide +kernel) ?_ | refine .mk 15 (by decide +kernel) ?_ | refine .mk 16 (by decide +kernel) ?_ | refine .mk 17 (by decide +kernel) ?_ | refine .mk 18 (by decide +kernel) ?_ | refine .mk 19 (by decide +kernel) ?_ | refine .mk 20 (by decide +kernel) ?_ | refine .mk 21 (by decide +kernel) ?_ | refine .mk 22 (by decide +kernel) ?_ | refine .mk 23 (by decide +kernel) ?_ | refine .mk 24 (by decide +kernel) ?_ | refine .mk 25 (by decide +kernel) ?_ | refine .mk 26 (by decide +kernel) ?_ | refine .mk 27 (by decide +kernel) ?_ | refine .mk 28 (by decide +kernel) ?_ | refine .mk 29 (by decide +kernel) ?_ | refine .mk 30 (by decide +kernel) ?_ | refine .mk 31 (by decide +kernel) ?_ | refine .mk 32 (by decide +kernel) ?_ | refine .mk 33 (by decide +kernel) ?_ | refine .mk 34 (by decide +kernel) ?_ | refine .mk 35 (by decide +kernel) ?_ | refine .mk 36 (by decide +kernel) ?_ | refine .mk 37 (by decide +kernel) ?_ | refine .mk 38 (by decide +kernel) ?_ | refine .mk 39 (by decide +kernel) ?_ | refine .mk 40 (by decide +kernel) ?_ | refine .mk 41 (by decide +kernel) ?_); (conv => whnf))
      | (refine HOLD.mk (by first | exact trivial | exact ⟨⟨rfl, rfl⟩, trivial⟩ | exact ⟨⟨rfl, rfl⟩, ⟨rfl, rfl⟩, trivial⟩) ?_; (conv => whnf))
      | (refine CALL0.cutBy lvNested _ _ _ _ _ (leL_refl _) (hA ..) rfl ?_; conv => whnf)
      | (refine CALL0.mk _ _ _ _ _ (leL_refl _) (hA ..) rfl ?_; conv => whnf)
      | (refine CALLQ.mk _ _ _ (leL_refl _) (hA ..) rfl ?_; conv => whnf)
    exact ⟨rfl, rfl⟩
  | false =>
  cases q2 : decide (d ≥ 12) with
  | true =>
    refine mk h_nacellelaw03_RotorNested rfl rfl ?_
    conv => whnf
    repeat first
      | (show DRAW _ _ _ _ _; (first | refine .mk 0 (by decide +kernel) ?_ | refine .mk 1 (by decide +kernel) ?_ | refine .mk 2 (by decide +kernel) ?_ | refine .mk 3 (by decide +kernel) ?_ | refine .mk 4 (by decide +kernel) ?_ | refine .mk 5 (by decide +kernel) ?_ | refine .mk 6 (by decide +kernel) ?_ | refine .mk 7 (by decide +kernel) ?_ | refine .mk 8 (by decide +kernel) ?_ | refine .mk 9 (by decide +kernel) ?_ | refine .mk 10 (by decide +kernel) ?_ | refine .mk 11 (by decide +kernel) ?_ | refine .mk 12 (by decide +kernel) ?_ | refine .mk 13 (by decide +kernel) ?_ | refine .mk 14 (by decide +kernel) ?_ | refine .mk 15 (by decide +kernel) ?_ | refine .mk 16 (by decide +kernel) ?_ | refine .mk 17 (by decide +kernel) ?_ | refine .mk 18 (by decide +kernel) ?_ | refine .mk 19 (by decide +kernel) ?_ | refine .mk 20 (by decide +kernel) ?_ | refine .mk 21 (by decide +kernel) ?_ | refine .mk 22 (by decide +kernel) ?_ | refine .mk 23 (by decide +kernel) ?_ | refine .mk 24 (by decide +kernel) ?_ | refine .mk 25 (by decide +kernel) ?_ | refine .mk 26 (by decide +kernel) ?_ | refine .mk 27 (by decide +kernel) ?_ | refine .mk 28 (by decide +kernel) ?_ | refine .mk 29 (by decide +kernel) ?_ | refine .mk 30 (by decide +kernel) ?_ | refine .mk 31 (by decide +kernel) ?_ | refine .mk 32 (by decide +kernel) ?_ | refine .mk 33 (by decide +kernel) ?_ | refine .mk 34 (by decide +kernel) ?_ | refine .mk 35 (by decide +kernel) ?_ | refine .mk 36 (by decide +kernel) ?_ | refine .mk 37 (by decide +kernel) ?_ | refine .mk 38 (by decide +kernel) ?_ | refine .mk 39 (by decide +kernel) ?_ | refine .mk 40 (by decide +kernel) ?_ | refine .mk 41 (by decide +kernel) ?_); (conv => whnf))
      | (refine HOLD.mk (by first | exact trivial | exact ⟨⟨rfl, rfl⟩, trivial⟩ | exact ⟨⟨rfl, rfl⟩, ⟨rfl, rfl⟩, trivial⟩) ?_; (conv => whnf))
      | (refine CALL0.cutBy lvNested _ _ _ _ _ (leL_refl _) (hA ..) rfl ?_; conv => whnf)
      | (refine CALL0.mk _ _ _ _ _ (leL_refl _) (hA ..) rfl ?_; conv => whnf)
      | (refine CALLQ.mk _ _ _ (leL_refl _) (hA ..) rfl ?_; conv => whnf)
      | (refine CALL0.cutBy lvNested _ _ _ _ _ (leL_refl _) (hS ..) rfl ?_; conv => whnf)
      | (refine CALL0.mk _ _ _ _ _ (leL_refl _) (hS ..) rfl ?_; conv => whnf)
      | (refine CALLQ.mk _ _ _ (leL_refl _) (hS ..) rfl ?_; conv => whnf)
      | (refine CALL0.cutBy lvNested _ _ _ _ _ (leL_refl _) (hE ..) rfl ?_; conv => whnf)
      | (refine CALL0.mk _ _ _ _ _ (leL_refl _) (hE ..) rfl ?_; conv => whnf)
      | (refine CALLQ.mk _ _ _ (leL_refl _) (hE ..) rfl ?_; conv => whnf)
      | (refine CALL0.cutBy lvNested _ _ _ _ _ (leL_refl _) (hFl ..) rfl ?_; conv => whnf)
      | (refine CALL0.mk _ _ _ _ _ (leL_refl _) (hFl ..) rfl ?_; conv => whnf)
      | (refine CALLQ.mk _ _ _ (leL_refl _) (hFl ..) rfl ?_; conv => whnf)
    split
    · rename_i h
      exact Bool.noConfusion ((q1).symm.trans h)
    rename_i hN
    clear hN
    conv => whnf
    split
    rotate_left
    · rename_i h
      exact Bool.noConfusion ((q2).symm.trans h)
    rename_i hN
    clear hN
    conv => whnf
    repeat first
      | (show DRAW _ _ _ _ _; (first | refine .mk 0 (by decide +kernel) ?_ | refine .mk 1 (by decide +kernel) ?_ | refine .mk 2 (by decide +kernel) ?_ | refine .mk 3 (by decide +kernel) ?_ | refine .mk 4 (by decide +kernel) ?_ | refine .mk 5 (by decide +kernel) ?_ | refine .mk 6 (by decide +kernel) ?_ | refine .mk 7 (by decide +kernel) ?_ | refine .mk 8 (by decide +kernel) ?_ | refine .mk 9 (by decide +kernel) ?_ | refine .mk 10 (by decide +kernel) ?_ | refine .mk 11 (by decide +kernel) ?_ | refine .mk 12 (by decide +kernel) ?_ | refine .mk 13 (by decide +kernel) ?_ | refine .mk 14 (by decide +kernel) ?_ | refine .mk 15 (by decide +kernel) ?_ | refine .mk 16 (by decide +kernel) ?_ | refine .mk 17 (by decide +kernel) ?_ | refine .mk 18 (by decide +kernel) ?_ | refine .mk 19 (by decide +kernel) ?_ | refine .mk 20 (by decide +kernel) ?_ | refine .mk 21 (by decide +kernel) ?_ | refine .mk 22 (by decide +kernel) ?_ | refine .mk 23 (by decide +kernel) ?_ | refine .mk 24 (by decide +kernel) ?_ | refine .mk 25 (by decide +kernel) ?_ | refine .mk 26 (by decide +kernel) ?_ | refine .mk 27 (by decide +kernel) ?_ | refine .mk 28 (by decide +kernel) ?_ | refine .mk 29 (by decide +kernel) ?_ | refine .mk 30 (by decide +kernel) ?_ | refine .mk 31 (by decide +kernel) ?_ | refine .mk 32 (by decide +kernel) ?_ | refine .mk 33 (by decide +kernel) ?_ | refine .mk 34 (by decide +kernel) ?_ | refine .mk 35 (by decide +kernel) ?_ | refine .mk 36 (by decide +kernel) ?_ | refine .mk 37 (by decide +kernel) ?_ | refine .mk 38 (by decide +kernel) ?_ | refine .mk 39 (by decide +kernel) ?_ | refine .mk 40 (by decide +kernel) ?_ | refine .mk 41 (by decide +kernel) ?_); (conv => whnf))
      | (refine HOLD.mk (by first | exact trivial | exact ⟨⟨rfl, rfl⟩, trivial⟩ | exact ⟨⟨rfl, rfl⟩, ⟨rfl, rfl⟩, trivial⟩) ?_; (conv => whnf))
      | (refine CALL0.cutBy lvNested _ _ _ _ _ (leL_refl _) (hA ..) rfl ?_; conv => whnf)
      | (refine CALL0.mk _ _ _ _ _ (leL_refl _) (hA ..) rfl ?_; conv => whnf)
      | (refine CALLQ.mk _ _ _ (leL_refl _) (hA ..) rfl ?_; conv => whnf)
    exact ⟨rfl, rfl⟩
  | false =>
  have k1 := of_decide_eq_false q1
  have k2 := of_decide_eq_false q2
  exact H hs zB zF (by omega) (by omega)

set_option maxHeartbeats 8000000 in
/-- No bracket. -/
theorem nested_none (up : List Ces) (hr : gl g_rotor_roots = rootsI) (hp : gl g_internal_strconv_uint64pow10 = powI) (b : Bl) (f : Fl) (d : Int) (n : Nat) (hs : lightB b f = true) (zB : b.err = 0) (zF : f.err = 0) (hd : d = ((n + 1 : Nat) : Int)) (hn : n + 1 < 12) (hall : ¬ allBr b f 0) :
    Cs gl n_nacellelaw03_RotorNested up [b.iv, f.iv, .int .i64 d] (.bool true) up := by
  have hsh : b.short = true := by
    unfold lightB at hs
    simp only [Bool.and_eq_true] at hs
    exact hs.1
  obtain ⟨hl, hdd, hnn⟩ := short_le hsh
  have hpos : 0 < b.nr := err_pos zB
  have hA := fun up => c_awake (gl := gl) up hr hp
  have hS := fun up => c_light (gl := gl) up b f
  have hE := fun up => c_rCheckBlade (gl := gl) up b
  have hFl := fun up => c_rCheckFlow (gl := gl) up f.w f.s f.p
  rw [hs] at hS
  rw [zB] at hE
  have zF' : flowS f.w f.s f.p = 0 := zF
  rw [zF'] at hFl
  have hb := fun up => c_blade (gl := gl) up b hl hdd hnn
  have q1 : decide (d < 1) = false := decide_eq_false (by omega)
  have q2 : decide (d ≥ 12) = false := decide_eq_false (by omega)
  have g : Good b f := ⟨zB, zF⟩
  have hw : w64 (d + 1) = ((n + 1 + 1 : Nat) : Int) := by rw [w64, wrap_in] <;> omega
  have hF0 := fun up => c_Thrust (gl := gl) up b f d
  have hF1 := fun up => c_Thrust (gl := gl) up b f (w64 (d + 1))
  have hT0 := fun up => c_Torque (gl := gl) up b f d
  have hT1 := fun up => c_Torque (gl := gl) up b f (w64 (d + 1))
  have hR := fun up => c_Rings (gl := gl) up b f d
  rw [hd, thrR_ok g (by omega)] at hF0
  rw [hw, thrR_ok g (by omega)] at hF1
  rw [hd, torR_ok g (by omega)] at hT0
  rw [hw, torR_ok g (by omega)] at hT1
  unfold ringsR at hR
  rw [hd, allErr_zero g (by omega), show (((n + 1 : Nat) : Int) - 1).toNat = n by omega, show (((n + 1 : Nat) : Int)).toNat = n + 1 by omega] at hR
  simp only [bne_self_eq_false, cond_false] at hR
  rw [← hw] at hF1 hT1
  rw [← hd] at hF0 hT0 hR
  rw [if_neg hall] at hF0 hF1 hT0 hT1
  rw [if_neg (fun q => hall ((allBr_iff 0 n).2 q))] at hR
  refine mk h_nacellelaw03_RotorNested rfl rfl ?_
  conv => whnf
  repeat first
    | (show DRAW _ _ _ _ _; (first | refine .mk 0 (by decide +kernel) ?_ | refine .mk 1 (by decide +kernel) ?_ | refine .mk 2 (by decide +kernel) ?_ | refine .mk 3 (by decide +kernel) ?_ | refine .mk 4 (by decide +kernel) ?_ | refine .mk 5 (by decide +kernel) ?_ | refine .mk 6 (by decide +kernel) ?_ | refine .mk 7 (by decide +kernel) ?_ | refine .mk 8 (by decide +kernel) ?_ | refine .mk 9 (by decide +kernel) ?_ | refine .mk 10 (by decide +kernel) ?_ | refine .mk 11 (by decide +kernel) ?_ | refine .mk 12 (by decide +kernel) ?_ | refine .mk 13 (by decide +kernel) ?_ | refine .mk 14 (by decide +kernel) ?_ | refine .mk 15 (by decide +kernel) ?_ | refine .mk 16 (by decide +kernel) ?_ | refine .mk 17 (by decide +kernel) ?_ | refine .mk 18 (by decide +kernel) ?_ | refine .mk 19 (by decide +kernel) ?_ | refine .mk 20 (by decide +kernel) ?_ | refine .mk 21 (by decide +kernel) ?_ | refine .mk 22 (by decide +kernel) ?_ | refine .mk 23 (by decide +kernel) ?_ | refine .mk 24 (by decide +kernel) ?_ | refine .mk 25 (by decide +kernel) ?_ | refine .mk 26 (by decide +kernel) ?_ | refine .mk 27 (by decide +kernel) ?_ | refine .mk 28 (by decide +kernel) ?_ | refine .mk 29 (by decide +kernel) ?_ | refine .mk 30 (by decide +kernel) ?_ | refine .mk 31 (by decide +kernel) ?_ | refine .mk 32 (by decide +kernel) ?_ | refine .mk 33 (by decide +kernel) ?_ | refine .mk 34 (by decide +kernel) ?_ | refine .mk 35 (by decide +kernel) ?_ | refine .mk 36 (by decide +kernel) ?_ | refine .mk 37 (by decide +kernel) ?_ | refine .mk 38 (by decide +kernel) ?_ | refine .mk 39 (by decide +kernel) ?_ | refine .mk 40 (by decide +kernel) ?_ | refine .mk 41 (by decide +kernel) ?_); (conv => whnf))
    | (refine HOLD.mk (by first | exact trivial | exact ⟨⟨rfl, rfl⟩, trivial⟩ | exact ⟨⟨rfl, rfl⟩, ⟨rfl, rfl⟩, trivial⟩) ?_; (conv => whnf))
    | (refine CALL0.cutBy lvNested _ _ _ _ _ (leL_refl _) (hA ..) rfl ?_; conv => whnf)
    | (refine CALL0.mk _ _ _ _ _ (leL_refl _) (hA ..) rfl ?_; conv => whnf)
    | (refine CALLQ.mk _ _ _ (leL_refl _) (hA ..) rfl ?_; conv => whnf)
    | (refine CALL0.cutBy lvNested _ _ _ _ _ (leL_refl _) (hS ..) rfl ?_; conv => whnf)
    | (refine CALL0.mk _ _ _ _ _ (leL_refl _) (hS ..) rfl ?_; conv => whnf)
    | (refine CALLQ.mk _ _ _ (leL_refl _) (hS ..) rfl ?_; conv => whnf)
    | (refine CALL0.cutBy lvNested _ _ _ _ _ (leL_refl _) (hE ..) rfl ?_; conv => whnf)
    | (refine CALL0.mk _ _ _ _ _ (leL_refl _) (hE ..) rfl ?_; conv => whnf)
    | (refine CALLQ.mk _ _ _ (leL_refl _) (hE ..) rfl ?_; conv => whnf)
    | (refine CALL0.cutBy lvNested _ _ _ _ _ (leL_refl _) (hFl ..) rfl ?_; conv => whnf)
    | (refine CALL0.mk _ _ _ _ _ (leL_refl _) (hFl ..) rfl ?_; conv => whnf)
    | (refine CALLQ.mk _ _ _ (leL_refl _) (hFl ..) rfl ?_; conv => whnf)
  split
  · rename_i h
    exact Bool.noConfusion ((q1).symm.trans h)
  rename_i hN
  clear hN
  conv => whnf
  split
  · rename_i h
    exact Bool.noConfusion ((q2).symm.trans h)
  rename_i hN
  clear hN
  conv => whnf
  repeat first
    | (show DRAW _ _ _ _ _; (first | refine .mk 0 (by decide +kernel) ?_ | refine .mk 1 (by decide +kernel) ?_ | refine .mk 2 (by decide +kernel) ?_ | refine .mk 3 (by decide +kernel) ?_ | refine .mk 4 (by decide +kernel) ?_ | refine .mk 5 (by decide +kernel) ?_ | refine .mk 6 (by decide +kernel) ?_ | refine .mk 7 (by decide +kernel) ?_ | refine .mk 8 (by decide +kernel) ?_ | refine .mk 9 (by decide +kernel) ?_ | refine .mk 10 (by decide +kernel) ?_ | refine .mk 11 (by decide +kernel) ?_ | refine .mk 12 (by decide +kernel) ?_ | refine .mk 13 (by decide +kernel) ?_ | refine .mk 14 (by decide +kernel) ?_ | refine .mk 15 (by decide +kernel) ?_ | refine .mk 16 (by decide +kernel) ?_ | refine .mk 17 (by decide +kernel) ?_ | refine .mk 18 (by decide +kernel) ?_ | refine .mk 19 (by decide +kernel) ?_ | refine .mk 20 (by decide +kernel) ?_ | refine .mk 21 (by decide +kernel) ?_ | refine .mk 22 (by decide +kernel) ?_ | refine .mk 23 (by decide +kernel) ?_ | refine .mk 24 (by decide +kernel) ?_ | refine .mk 25 (by decide +kernel) ?_ | refine .mk 26 (by decide +kernel) ?_ | refine .mk 27 (by decide +kernel) ?_ | refine .mk 28 (by decide +kernel) ?_ | refine .mk 29 (by decide +kernel) ?_ | refine .mk 30 (by decide +kernel) ?_ | refine .mk 31 (by decide +kernel) ?_ | refine .mk 32 (by decide +kernel) ?_ | refine .mk 33 (by decide +kernel) ?_ | refine .mk 34 (by decide +kernel) ?_ | refine .mk 35 (by decide +kernel) ?_ | refine .mk 36 (by decide +kernel) ?_ | refine .mk 37 (by decide +kernel) ?_ | refine .mk 38 (by decide +kernel) ?_ | refine .mk 39 (by decide +kernel) ?_ | refine .mk 40 (by decide +kernel) ?_ | refine .mk 41 (by decide +kernel) ?_); (conv => whnf))
    | (refine HOLD.mk (by first | exact trivial | exact ⟨⟨rfl, rfl⟩, trivial⟩ | exact ⟨⟨rfl, rfl⟩, ⟨rfl, rfl⟩, trivial⟩) ?_; (conv => whnf))
    | (refine CALL0.cutBy lvNested _ _ _ _ _ (leL_refl _) (hA ..) rfl ?_; conv => whnf)
    | (refine CALL0.mk _ _ _ _ _ (leL_refl _) (hA ..) rfl ?_; conv => whnf)
    | (refine CALLQ.mk _ _ _ (leL_refl _) (hA ..) rfl ?_; conv => whnf)
  repeat first
    | (show DRAW _ _ _ _ _; (first | refine .mk 0 (by decide +kernel) ?_ | refine .mk 1 (by decide +kernel) ?_ | refine .mk 2 (by decide +kernel) ?_ | refine .mk 3 (by decide +kernel) ?_ | refine .mk 4 (by decide +kernel) ?_ | refine .mk 5 (by decide +kernel) ?_ | refine .mk 6 (by decide +kernel) ?_ | refine .mk 7 (by decide +kernel) ?_ | refine .mk 8 (by decide +kernel) ?_ | refine .mk 9 (by decide +kernel) ?_ | refine .mk 10 (by decide +kernel) ?_ | refine .mk 11 (by decide +kernel) ?_ | refine .mk 12 (by decide +kernel) ?_ | refine .mk 13 (by decide +kernel) ?_ | refine .mk 14 (by decide +kernel) ?_ | refine .mk 15 (by decide +kernel) ?_ | refine .mk 16 (by decide +kernel) ?_ | refine .mk 17 (by decide +kernel) ?_ | refine .mk 18 (by decide +kernel) ?_ | refine .mk 19 (by decide +kernel) ?_ | refine .mk 20 (by decide +kernel) ?_ | refine .mk 21 (by decide +kernel) ?_ | refine .mk 22 (by decide +kernel) ?_ | refine .mk 23 (by decide +kernel) ?_ | refine .mk 24 (by decide +kernel) ?_ | refine .mk 25 (by decide +kernel) ?_ | refine .mk 26 (by decide +kernel) ?_ | refine .mk 27 (by decide +kernel) ?_ | refine .mk 28 (by decide +kernel) ?_ | refine .mk 29 (by decide +kernel) ?_ | refine .mk 30 (by decide +kernel) ?_ | refine .mk 31 (by decide +kernel) ?_ | refine .mk 32 (by decide +kernel) ?_ | refine .mk 33 (by decide +kernel) ?_ | refine .mk 34 (by decide +kernel) ?_ | refine .mk 35 (by decide +kernel) ?_ | refine .mk 36 (by decide +kernel) ?_ | refine .mk 37 (by decide +kernel) ?_ | refine .mk 38 (by decide +kernel) ?_ | refine .mk 39 (by decide +kernel) ?_ | refine .mk 40 (by decide +kernel) ?_ | refine .mk 41 (by decide +kernel) ?_); (conv => whnf))
    | (refine HOLD.mk (by first | exact trivial | exact ⟨⟨rfl, rfl⟩, trivial⟩ | exact ⟨⟨rfl, rfl⟩, ⟨rfl, rfl⟩, trivial⟩) ?_; (conv => whnf))
    | (refine CALL0.cutBy lvNested _ _ _ _ _ (leL_refl _) (hb ..) rfl ?_; conv => whnf)
    | (refine CALL0.mk _ _ _ _ _ (leL_refl _) (hb ..) rfl ?_; conv => whnf)
    | (refine CALLQ.mk _ _ _ (leL_refl _) (hb ..) rfl ?_; conv => whnf)
    | (refine CALL0.cutBy lvNested _ _ _ _ _ (leL_refl _) (hF0 ..) rfl ?_; conv => whnf)
    | (refine CALL0.mk _ _ _ _ _ (leL_refl _) (hF0 ..) rfl ?_; conv => whnf)
    | (refine CALLQ.mk _ _ _ (leL_refl _) (hF0 ..) rfl ?_; conv => whnf)
    | (refine CALL0.cutBy lvNested _ _ _ _ _ (leL_refl _) (hF1 ..) rfl ?_; conv => whnf)
    | (refine CALL0.mk _ _ _ _ _ (leL_refl _) (hF1 ..) rfl ?_; conv => whnf)
    | (refine CALLQ.mk _ _ _ (leL_refl _) (hF1 ..) rfl ?_; conv => whnf)
    | (refine CALL0.cutBy lvNested _ _ _ _ _ (leL_refl _) (hT0 ..) rfl ?_; conv => whnf)
    | (refine CALL0.mk _ _ _ _ _ (leL_refl _) (hT0 ..) rfl ?_; conv => whnf)
    | (refine CALLQ.mk _ _ _ (leL_refl _) (hT0 ..) rfl ?_; conv => whnf)
    | (refine CALL0.cutBy lvNested _ _ _ _ _ (leL_refl _) (hT1 ..) rfl ?_; conv => whnf)
    | (refine CALL0.mk _ _ _ _ _ (leL_refl _) (hT1 ..) rfl ?_; conv => whnf)
    | (refine CALLQ.mk _ _ _ (leL_refl _) (hT1 ..) rfl ?_; conv => whnf)
    | (refine CALL0.cutBy lvNested _ _ _ _ _ (leL_refl _) (hR ..) rfl ?_; conv => whnf)
    | (refine CALL0.mk _ _ _ _ _ (leL_refl _) (hR ..) rfl ?_; conv => whnf)
    | (refine CALLQ.mk _ _ _ (leL_refl _) (hR ..) rfl ?_; conv => whnf)
  exact ⟨rfl, rfl⟩
end Go.Proofs.YtllmejkmogepjaaDoor.Ix
