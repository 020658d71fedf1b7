/-
  Ks6: ControlRuns: the law.
-/
import Derived.Test.YtkdlegfakefjgaaGreatDoorM9
namespace Go.Proofs.YtkdlegfakefjgaaGreatDoor.Ix
open Go.Proofs
set_option maxRecDepth 100000
set_option linter.unusedVariables false
set_option linter.unusedSimpArgs false
variable {gl : Nat → IV}

theorem runs_no (up : List Ces) (hk : gl g_control_kinds = kindsI) (hg : gl g_internal_strconv_uint64pow10 = powI) (m : Mc) (n : Nat) (w : Nat → Int) (M : Int) (hs : m.smallB = false ∨ (decide ((n : Int) > 24) = true ∧ ((n : Int) != 1025) = true)) :
    Cs gl n_nacellelaw05_ControlRuns up [m.iv, .lst none 1 n fun i => [.int .i64 (w i)], .int .i64 M] (.bool true) up := by
  refine mk h_nacellelaw05_ControlRuns rfl rfl ?_
  have hS := fun up => c_rSmall (gl := gl) up m
  have hA := fun up => c_awake (gl := gl) up hk hg
  cases qs : m.smallB with
  | false =>
    rw [qs] at hS
    conv => whnf
    repeat first
      | (refine DRAW.seek ?_; repeat (first | refine TRYD.take ?_ | refine TRYD.next ?_); conv => whnf)
      | (refine HOLD.mk (by first | exact trivial | exact ⟨⟨rfl, rfl⟩, trivial⟩ | exact ⟨⟨rfl, rfl⟩, ⟨rfl, rfl⟩, trivial⟩) ?_; (conv => whnf))
      | (refine CALL0.by (hS ..) rfl ?_; conv => whnf)
      | (refine CALLQ.mk _ _ _ (leL_refl _) (hS ..) rfl ?_; conv => whnf)
      | (refine CALL0.by (hA ..) rfl ?_; conv => whnf)
      | (refine CALLQ.mk _ _ _ (leL_refl _) (hA ..) rfl ?_; conv => whnf)
    exact ⟨rfl, rfl⟩
  | true =>
    rw [qs] at hS
    obtain ⟨q1, q2⟩ := hs.resolve_left (by rw [qs]; nofun)
    conv => whnf
    repeat first
      | (refine DRAW.seek ?_; repeat (first | refine TRYD.take ?_ | refine TRYD.next ?_); conv => whnf)
      | (refine HOLD.mk (by first | exact trivial | exact ⟨⟨rfl, rfl⟩, trivial⟩ | exact ⟨⟨rfl, rfl⟩, ⟨rfl, rfl⟩, trivial⟩) ?_; (conv => whnf))
      | (refine CALL0.by (hS ..) rfl ?_; conv => whnf)
      | (refine CALLQ.mk _ _ _ (leL_refl _) (hS ..) rfl ?_; conv => whnf)
    split
    rotate_left
    · rename_i h
      exact Bool.noConfusion ((q1).symm.trans h)
    rename_i hN
    clear hN
    conv => whnf
    split
    rotate_left
    · rename_i h
      exact Bool.noConfusion ((q2).symm.trans h)
    rename_i hN
    clear hN
    conv => whnf
    repeat first
      | (refine DRAW.seek ?_; repeat (first | refine TRYD.take ?_ | refine TRYD.next ?_); conv => whnf)
      | (refine HOLD.mk (by first | exact trivial | exact ⟨⟨rfl, rfl⟩, trivial⟩ | exact ⟨⟨rfl, rfl⟩, ⟨rfl, rfl⟩, trivial⟩) ?_; (conv => whnf))
      | (refine CALL0.by (hA ..) rfl ?_; conv => whnf)
      | (refine CALLQ.mk _ _ _ (leL_refl _) (hA ..) rfl ?_; conv => whnf)
    exact ⟨rfl, rfl⟩

theorem c_ownNil (up : List Ces) : Cs gl n_nacellelaw05_own up [.nilS] (.lst (some 15) 5 0 fun i => (⟨ByteArray.empty, 0, 0, 0, 0⟩ : Ac).cs) up :=
  Comp.le (args' := [.lst none 5 0 fun i => (⟨ByteArray.empty, 0, 0, 0, 0⟩ : Ac).cs]) ⟨rfl, trivial⟩ (c_own up 0 (by decide) fun _ => ⟨ByteArray.empty, 0, 0, 0, 0⟩)
theorem c_sameActsNil (up : List Ces) : Cs gl n_nacelleref05_SameActs up [.lst none 5 0 fun i => (⟨ByteArray.empty, 0, 0, 0, 0⟩ : Ac).cs, .nilS] (.bool true) up :=
  Comp.le (args' := [.lst none 5 0 fun i => (⟨ByteArray.empty, 0, 0, 0, 0⟩ : Ac).cs, .lst none 5 0 fun i => (⟨ByteArray.empty, 0, 0, 0, 0⟩ : Ac).cs]) ⟨leV_refl _, rfl, trivial⟩ (c_rSameActs up 0 (by decide) (fun _ => ⟨ByteArray.empty, 0, 0, 0, 0⟩))

/-- What is read behind each call. -/
def lvRuns : List (Nat × List Nat) := [(16, [1, 2, 3, 6, 7, 8, 9, 10, 11, 16]), (28, [1, 2, 3, 6, 7, 8, 9, 10, 11, 28]), (31, [1, 2, 3, 6, 7, 8, 9, 10, 11, 31]), (35, [1, 2, 3, 6, 7, 8, 9, 10, 11, 35]), (43, [1, 2, 3, 6, 7, 8, 9, 10, 11, 43]), (47, [1, 2, 3, 6, 7, 8, 9, 10, 11, 47]), (52, [1, 2, 3, 6, 7, 8, 9, 10, 11, 52]), (55, [1, 2, 3, 6, 7, 8, 9, 10, 11, 55]), (60, [1, 2, 6, 7, 8, 9, 10, 11, 12, 13, 14, 60]), (65, [6, 7, 8, 9, 10, 11, 12, 13, 14, 65]), (67, [6, 8, 9, 10, 11, 12, 13, 14, 67]), (69, [6, 8, 9, 10, 11, 12, 14, 69]), (86, [6, 85, 86])]

set_option maxHeartbeats 16000000 in
/-- A machine or winds with an error. -/
theorem runs_bad (up : List Ces) (hk : gl g_control_kinds = kindsI) (hg : gl g_internal_strconv_uint64pow10 = powI) (m : Mc) (n : Nat) (hn : n ≤ 1025) (w : Nat → Int) (M : Int) (hs : m.smallB = true)
    (hq : decide ((n : Int) > 24) = false ∨ decide ((n : Int) > 24) = true ∧ ((n : Int) != 1025) = false) (E1 : Int) (qE : (E1 != 0) = true)
    (hRun : ∀ up, Cs gl n_control_Run up [m.iv, .lst none 1 n fun i => [.int .i64 (w i)]] (.tup [.nilS, .int .i64 E1]) up)
    (hE : m.err = E1 ∨ m.err = 0 ∧ windE m n w = E1) :
    Cs gl n_nacellelaw05_ControlRuns up [m.iv, .lst none 1 n fun i => [.int .i64 (w i)], .int .i64 M] (.bool true) up := by
  have hS := fun up => c_rSmall (gl := gl) up m
  rw [hs] at hS
  have hA := fun up => c_awake (gl := gl) up hk hg
  have hM := fun up => c_rMachine (gl := gl) up m
  have hW := fun up => c_rCheckWinds (gl := gl) up m n (by omega) w
  have hRamp := fun up => c_Ramps (gl := gl) up n (by omega) w M
  have hCR := fun up => c_rCheckRamps (gl := gl) up n (by omega) w M
  have hRR := fun up => c_rRamps (gl := gl) up n (by omega) w M
  obtain ⟨E2, hE2⟩ : ∃ E, E = rampE n w M := ⟨_, rfl⟩
  rw [← hE2] at hRamp hCR
  obtain ⟨R, hR⟩ : ∃ R, R = rampN w M (n - 1) 1 := ⟨_, rfl⟩
  rw [← hR] at hRamp
  have zE : (E1 == 0) = false := by simpa using qE
  have eE : (E1 == E1) = true := beq_self_eq_true E1
  have e2 : (E2 == E2) = true := beq_self_eq_true E2
  have eR : (R == R) = true := beq_self_eq_true R
  cases q2 : (E2 != 0) with
  | true =>
    have z2 : (E2 == 0) = false := by simpa using q2
    rw [q2, cond_true] at hRamp
    clear hE2 hR hRR eR
    rcases hE with he | ⟨he, he2⟩
    · rw [he] at hM
      clear hW
      rcases hq with q24 | ⟨q24, q25⟩
      · refine mk h_nacellelaw05_ControlRuns rfl rfl ?_
        conv => whnf
        repeat first
          | (refine DRAW.seek ?_; repeat (first | refine TRYD.take ?_ | refine TRYD.next ?_); conv => whnf)
          | (refine HOLD.mk (by first | exact trivial | exact ⟨⟨rfl, rfl⟩, trivial⟩ | exact ⟨⟨rfl, rfl⟩, ⟨rfl, rfl⟩, trivial⟩) ?_; (conv => whnf))
          | (refine CALL0.cutBy lvRuns _ _ _ _ _ (leL_refl _) (hS ..) rfl ?_; conv => whnf)
          | (refine CALL0.by (hS ..) rfl ?_; conv => whnf)
          | (refine CALLQ.mk _ _ _ (leL_refl _) (hS ..) rfl ?_; conv => whnf)
        split
        · rename_i h
          exact Bool.noConfusion ((q24).symm.trans h)
        rename_i hN
        clear hN
        conv => whnf
        repeat first
          | (refine DRAW.seek ?_; repeat (first | refine TRYD.take ?_ | refine TRYD.next ?_); conv => whnf)
          | (refine HOLD.mk (by first | exact trivial | exact ⟨⟨rfl, rfl⟩, trivial⟩ | exact ⟨⟨rfl, rfl⟩, ⟨rfl, rfl⟩, trivial⟩) ?_; (conv => whnf))
          | (refine CALL0.cutBy lvRuns _ _ _ _ _ (leL_refl _) (c_machine ..) rfl ?_; conv => whnf)
          | (refine CALL0.by (c_machine ..) rfl ?_; conv => whnf)
          | (refine CALLQ.mk _ _ _ (leL_refl _) (c_machine ..) rfl ?_; conv => whnf)
        split
        rotate_left
        · rename_i h
          have h' : decide (n ≤ 1073741824) = false := h
          simp at h' <;> omega
        conv => whnf
        repeat first
          | (refine DRAW.seek ?_; repeat (first | refine TRYD.take ?_ | refine TRYD.next ?_); conv => whnf)
          | (refine HOLD.mk (by first | exact trivial | exact ⟨⟨rfl, rfl⟩, trivial⟩ | exact ⟨⟨rfl, rfl⟩, ⟨rfl, rfl⟩, trivial⟩) ?_; (conv => whnf))
          | (refine CALL0.cutBy lvRuns _ _ _ _ _ (leL_refl _) (hRun ..) rfl ?_; conv => whnf)
          | (refine CALL0.by (hRun ..) rfl ?_; conv => whnf)
          | (refine CALLQ.mk _ _ _ (leL_refl _) (hRun ..) rfl ?_; conv => whnf)
        split
        rotate_left
        · rename_i h
          have h' : decide (n ≤ 1073741824) = false := h
          simp at h' <;> omega
        conv => whnf
        repeat first
          | (refine DRAW.seek ?_; repeat (first | refine TRYD.take ?_ | refine TRYD.next ?_); conv => whnf)
          | (refine HOLD.mk (by first | exact trivial | exact ⟨⟨rfl, rfl⟩, trivial⟩ | exact ⟨⟨rfl, rfl⟩, ⟨rfl, rfl⟩, trivial⟩) ?_; (conv => whnf))
          | (refine CALL0.cutBy lvRuns _ _ _ _ _ (leL_refl _) (hRamp ..) rfl ?_; conv => whnf)
          | (refine CALL0.by (hRamp ..) rfl ?_; conv => whnf)
          | (refine CALLQ.mk _ _ _ (leL_refl _) (hRamp ..) rfl ?_; conv => whnf)
          | (refine CALL0.cutBy lvRuns _ _ _ _ _ (leL_refl _) (hM ..) rfl ?_; conv => whnf)
          | (refine CALL0.by (hM ..) rfl ?_; conv => whnf)
          | (refine CALLQ.mk _ _ _ (leL_refl _) (hM ..) rfl ?_; conv => whnf)
        split
        · rename_i h
          exact Bool.noConfusion ((zE).symm.trans h)
        rename_i hN
        clear hN
        conv => whnf
        repeat first
          | (refine DRAW.seek ?_; repeat (first | refine TRYD.take ?_ | refine TRYD.next ?_); conv => whnf)
          | (refine HOLD.mk (by first | exact trivial | exact ⟨⟨rfl, rfl⟩, trivial⟩ | exact ⟨⟨rfl, rfl⟩, ⟨rfl, rfl⟩, trivial⟩) ?_; (conv => whnf))
          | (refine CALL0.cutBy lvRuns _ _ _ _ _ (leL_refl _) (hCR ..) rfl ?_; conv => whnf)
          | (refine CALL0.by (hCR ..) rfl ?_; conv => whnf)
          | (refine CALLQ.mk _ _ _ (leL_refl _) (hCR ..) rfl ?_; conv => whnf)
        split
        · rename_i h
          exact Bool.noConfusion ((zE).symm.trans h)
        rename_i hN
        clear hN
        conv => whnf
        split
        · rename_i h
          exact Bool.noConfusion ((z2).symm.trans h)
        rename_i hN
        clear hN
        conv => whnf
        repeat first
          | (refine DRAW.seek ?_; repeat (first | refine TRYD.take ?_ | refine TRYD.next ?_); conv => whnf)
          | (refine HOLD.mk (by first | exact trivial | exact ⟨⟨rfl, rfl⟩, trivial⟩ | exact ⟨⟨rfl, rfl⟩, ⟨rfl, rfl⟩, trivial⟩) ?_; (conv => whnf))
          | (refine CALL0.cutBy lvRuns _ _ _ _ _ (leL_refl _) (c_ownNil ..) rfl ?_; conv => whnf)
          | (refine CALL0.by (c_ownNil ..) rfl ?_; conv => whnf)
          | (refine CALLQ.mk _ _ _ (leL_refl _) (c_ownNil ..) rfl ?_; conv => whnf)
          | (refine CALL0.cutBy lvRuns _ _ _ _ _ (leL_refl _) (c_sameActsNil ..) rfl ?_; conv => whnf)
          | (refine CALL0.by (c_sameActsNil ..) rfl ?_; conv => whnf)
          | (refine CALLQ.mk _ _ _ (leL_refl _) (c_sameActsNil ..) rfl ?_; conv => whnf)
        split
        rotate_left
        · rename_i h
          exact Bool.noConfusion ((eE).symm.trans h)
        rename_i hN
        clear hN
        conv => whnf
        split
        rotate_left
        · rename_i h
          exact Bool.noConfusion ((e2).symm.trans h)
        rename_i hN
        clear hN
        conv => whnf
        repeat first
          | (refine DRAW.seek ?_; repeat (first | refine TRYD.take ?_ | refine TRYD.next ?_); conv => whnf)
          | (refine HOLD.mk (by first | exact trivial | exact ⟨⟨rfl, rfl⟩, trivial⟩ | exact ⟨⟨rfl, rfl⟩, ⟨rfl, rfl⟩, trivial⟩) ?_; (conv => whnf))
          | (refine CALL0.cutBy lvRuns _ _ _ _ _ (leL_refl _) (hA ..) rfl ?_; conv => whnf)
          | (refine CALL0.by (hA ..) rfl ?_; conv => whnf)
          | (refine CALLQ.mk _ _ _ (leL_refl _) (hA ..) rfl ?_; conv => whnf)
        exact ⟨rfl, rfl⟩
      · refine mk h_nacellelaw05_ControlRuns rfl rfl ?_
        conv => whnf
        repeat first
          | (refine DRAW.seek ?_; repeat (first | refine TRYD.take ?_ | refine TRYD.next ?_); conv => whnf)
          | (refine HOLD.mk (by first | exact trivial | exact ⟨⟨rfl, rfl⟩, trivial⟩ | exact ⟨⟨rfl, rfl⟩, ⟨rfl, rfl⟩, trivial⟩) ?_; (conv => whnf))
          | (refine CALL0.cutBy lvRuns _ _ _ _ _ (leL_refl _) (hS ..) rfl ?_; conv => whnf)
          | (refine CALL0.by (hS ..) rfl ?_; conv => whnf)
          | (refine CALLQ.mk _ _ _ (leL_refl _) (hS ..) rfl ?_; conv => whnf)
        split
        rotate_left
        · rename_i h
          exact Bool.noConfusion ((q24).symm.trans h)
        rename_i hN
        clear hN
        conv => whnf
        split
        · rename_i h
          exact Bool.noConfusion ((q25).symm.trans h)
        rename_i hN
        clear hN
        conv => whnf
        repeat first
          | (refine DRAW.seek ?_; repeat (first | refine TRYD.take ?_ | refine TRYD.next ?_); conv => whnf)
          | (refine HOLD.mk (by first | exact trivial | exact ⟨⟨rfl, rfl⟩, trivial⟩ | exact ⟨⟨rfl, rfl⟩, ⟨rfl, rfl⟩, trivial⟩) ?_; (conv => whnf))
          | (refine CALL0.cutBy lvRuns _ _ _ _ _ (leL_refl _) (c_machine ..) rfl ?_; conv => whnf)
          | (refine CALL0.by (c_machine ..) rfl ?_; conv => whnf)
          | (refine CALLQ.mk _ _ _ (leL_refl _) (c_machine ..) rfl ?_; conv => whnf)
        split
        rotate_left
        · rename_i h
          have h' : decide (n ≤ 1073741824) = false := h
          simp at h' <;> omega
        conv => whnf
        repeat first
          | (refine DRAW.seek ?_; repeat (first | refine TRYD.take ?_ | refine TRYD.next ?_); conv => whnf)
          | (refine HOLD.mk (by first | exact trivial | exact ⟨⟨rfl, rfl⟩, trivial⟩ | exact ⟨⟨rfl, rfl⟩, ⟨rfl, rfl⟩, trivial⟩) ?_; (conv => whnf))
          | (refine CALL0.cutBy lvRuns _ _ _ _ _ (leL_refl _) (hRun ..) rfl ?_; conv => whnf)
          | (refine CALL0.by (hRun ..) rfl ?_; conv => whnf)
          | (refine CALLQ.mk _ _ _ (leL_refl _) (hRun ..) rfl ?_; conv => whnf)
        split
        rotate_left
        · rename_i h
          have h' : decide (n ≤ 1073741824) = false := h
          simp at h' <;> omega
        conv => whnf
        repeat first
          | (refine DRAW.seek ?_; repeat (first | refine TRYD.take ?_ | refine TRYD.next ?_); conv => whnf)
          | (refine HOLD.mk (by first | exact trivial | exact ⟨⟨rfl, rfl⟩, trivial⟩ | exact ⟨⟨rfl, rfl⟩, ⟨rfl, rfl⟩, trivial⟩) ?_; (conv => whnf))
          | (refine CALL0.cutBy lvRuns _ _ _ _ _ (leL_refl _) (hRamp ..) rfl ?_; conv => whnf)
          | (refine CALL0.by (hRamp ..) rfl ?_; conv => whnf)
          | (refine CALLQ.mk _ _ _ (leL_refl _) (hRamp ..) rfl ?_; conv => whnf)
          | (refine CALL0.cutBy lvRuns _ _ _ _ _ (leL_refl _) (hM ..) rfl ?_; conv => whnf)
          | (refine CALL0.by (hM ..) rfl ?_; conv => whnf)
          | (refine CALLQ.mk _ _ _ (leL_refl _) (hM ..) rfl ?_; conv => whnf)
        split
        · rename_i h
          exact Bool.noConfusion ((zE).symm.trans h)
        rename_i hN
        clear hN
        conv => whnf
        repeat first
          | (refine DRAW.seek ?_; repeat (first | refine TRYD.take ?_ | refine TRYD.next ?_); conv => whnf)
          | (refine HOLD.mk (by first | exact trivial | exact ⟨⟨rfl, rfl⟩, trivial⟩ | exact ⟨⟨rfl, rfl⟩, ⟨rfl, rfl⟩, trivial⟩) ?_; (conv => whnf))
          | (refine CALL0.cutBy lvRuns _ _ _ _ _ (leL_refl _) (hCR ..) rfl ?_; conv => whnf)
          | (refine CALL0.by (hCR ..) rfl ?_; conv => whnf)
          | (refine CALLQ.mk _ _ _ (leL_refl _) (hCR ..) rfl ?_; conv => whnf)
        split
        · rename_i h
          exact Bool.noConfusion ((zE).symm.trans h)
        rename_i hN
        clear hN
        conv => whnf
        split
        · rename_i h
          exact Bool.noConfusion ((z2).symm.trans h)
        rename_i hN
        clear hN
        conv => whnf
        repeat first
          | (refine DRAW.seek ?_; repeat (first | refine TRYD.take ?_ | refine TRYD.next ?_); conv => whnf)
          | (refine HOLD.mk (by first | exact trivial | exact ⟨⟨rfl, rfl⟩, trivial⟩ | exact ⟨⟨rfl, rfl⟩, ⟨rfl, rfl⟩, trivial⟩) ?_; (conv => whnf))
          | (refine CALL0.cutBy lvRuns _ _ _ _ _ (leL_refl _) (c_ownNil ..) rfl ?_; conv => whnf)
          | (refine CALL0.by (c_ownNil ..) rfl ?_; conv => whnf)
          | (refine CALLQ.mk _ _ _ (leL_refl _) (c_ownNil ..) rfl ?_; conv => whnf)
          | (refine CALL0.cutBy lvRuns _ _ _ _ _ (leL_refl _) (c_sameActsNil ..) rfl ?_; conv => whnf)
          | (refine CALL0.by (c_sameActsNil ..) rfl ?_; conv => whnf)
          | (refine CALLQ.mk _ _ _ (leL_refl _) (c_sameActsNil ..) rfl ?_; conv => whnf)
        split
        rotate_left
        · rename_i h
          exact Bool.noConfusion ((eE).symm.trans h)
        rename_i hN
        clear hN
        conv => whnf
        split
        rotate_left
        · rename_i h
          exact Bool.noConfusion ((e2).symm.trans h)
        rename_i hN
        clear hN
        conv => whnf
        repeat first
          | (refine DRAW.seek ?_; repeat (first | refine TRYD.take ?_ | refine TRYD.next ?_); conv => whnf)
          | (refine HOLD.mk (by first | exact trivial | exact ⟨⟨rfl, rfl⟩, trivial⟩ | exact ⟨⟨rfl, rfl⟩, ⟨rfl, rfl⟩, trivial⟩) ?_; (conv => whnf))
          | (refine CALL0.cutBy lvRuns _ _ _ _ _ (leL_refl _) (hA ..) rfl ?_; conv => whnf)
          | (refine CALL0.by (hA ..) rfl ?_; conv => whnf)
          | (refine CALLQ.mk _ _ _ (leL_refl _) (hA ..) rfl ?_; conv => whnf)
        exact ⟨rfl, rfl⟩
    · rw [he] at hM
      rw [he2] at hW
      rcases hq with q24 | ⟨q24, q25⟩
      · refine mk h_nacellelaw05_ControlRuns rfl rfl ?_
        conv => whnf
        repeat first
          | (refine DRAW.seek ?_; repeat (first | refine TRYD.take ?_ | refine TRYD.next ?_); conv => whnf)
          | (refine HOLD.mk (by first | exact trivial | exact ⟨⟨rfl, rfl⟩, trivial⟩ | exact ⟨⟨rfl, rfl⟩, ⟨rfl, rfl⟩, trivial⟩) ?_; (conv => whnf))
          | (refine CALL0.cutBy lvRuns _ _ _ _ _ (leL_refl _) (hS ..) rfl ?_; conv => whnf)
          | (refine CALL0.by (hS ..) rfl ?_; conv => whnf)
          | (refine CALLQ.mk _ _ _ (leL_refl _) (hS ..) rfl ?_; conv => whnf)
        split
        · rename_i h
          exact Bool.noConfusion ((q24).symm.trans h)
        rename_i hN
        clear hN
        conv => whnf
        repeat first
          | (refine DRAW.seek ?_; repeat (first | refine TRYD.take ?_ | refine TRYD.next ?_); conv => whnf)
          | (refine HOLD.mk (by first | exact trivial | exact ⟨⟨rfl, rfl⟩, trivial⟩ | exact ⟨⟨rfl, rfl⟩, ⟨rfl, rfl⟩, trivial⟩) ?_; (conv => whnf))
          | (refine CALL0.cutBy lvRuns _ _ _ _ _ (leL_refl _) (c_machine ..) rfl ?_; conv => whnf)
          | (refine CALL0.by (c_machine ..) rfl ?_; conv => whnf)
          | (refine CALLQ.mk _ _ _ (leL_refl _) (c_machine ..) rfl ?_; conv => whnf)
        split
        rotate_left
        · rename_i h
          have h' : decide (n ≤ 1073741824) = false := h
          simp at h' <;> omega
        conv => whnf
        repeat first
          | (refine DRAW.seek ?_; repeat (first | refine TRYD.take ?_ | refine TRYD.next ?_); conv => whnf)
          | (refine HOLD.mk (by first | exact trivial | exact ⟨⟨rfl, rfl⟩, trivial⟩ | exact ⟨⟨rfl, rfl⟩, ⟨rfl, rfl⟩, trivial⟩) ?_; (conv => whnf))
          | (refine CALL0.cutBy lvRuns _ _ _ _ _ (leL_refl _) (hRun ..) rfl ?_; conv => whnf)
          | (refine CALL0.by (hRun ..) rfl ?_; conv => whnf)
          | (refine CALLQ.mk _ _ _ (leL_refl _) (hRun ..) rfl ?_; conv => whnf)
        split
        rotate_left
        · rename_i h
          have h' : decide (n ≤ 1073741824) = false := h
          simp at h' <;> omega
        conv => whnf
        repeat first
          | (refine DRAW.seek ?_; repeat (first | refine TRYD.take ?_ | refine TRYD.next ?_); conv => whnf)
          | (refine HOLD.mk (by first | exact trivial | exact ⟨⟨rfl, rfl⟩, trivial⟩ | exact ⟨⟨rfl, rfl⟩, ⟨rfl, rfl⟩, trivial⟩) ?_; (conv => whnf))
          | (refine CALL0.cutBy lvRuns _ _ _ _ _ (leL_refl _) (hRamp ..) rfl ?_; conv => whnf)
          | (refine CALL0.by (hRamp ..) rfl ?_; conv => whnf)
          | (refine CALLQ.mk _ _ _ (leL_refl _) (hRamp ..) rfl ?_; conv => whnf)
          | (refine CALL0.cutBy lvRuns _ _ _ _ _ (leL_refl _) (hM ..) rfl ?_; conv => whnf)
          | (refine CALL0.by (hM ..) rfl ?_; conv => whnf)
          | (refine CALLQ.mk _ _ _ (leL_refl _) (hM ..) rfl ?_; conv => whnf)
        repeat first
          | (refine DRAW.seek ?_; repeat (first | refine TRYD.take ?_ | refine TRYD.next ?_); conv => whnf)
          | (refine HOLD.mk (by first | exact trivial | exact ⟨⟨rfl, rfl⟩, trivial⟩ | exact ⟨⟨rfl, rfl⟩, ⟨rfl, rfl⟩, trivial⟩) ?_; (conv => whnf))
          | (refine CALL0.cutBy lvRuns _ _ _ _ _ (leL_refl _) (hW ..) rfl ?_; conv => whnf)
          | (refine CALL0.by (hW ..) rfl ?_; conv => whnf)
          | (refine CALLQ.mk _ _ _ (leL_refl _) (hW ..) rfl ?_; conv => whnf)
          | (refine CALL0.cutBy lvRuns _ _ _ _ _ (leL_refl _) (hCR ..) rfl ?_; conv => whnf)
          | (refine CALL0.by (hCR ..) rfl ?_; conv => whnf)
          | (refine CALLQ.mk _ _ _ (leL_refl _) (hCR ..) rfl ?_; conv => whnf)
        split
        · rename_i h
          exact Bool.noConfusion ((zE).symm.trans h)
        rename_i hN
        clear hN
        conv => whnf
        split
        · rename_i h
          exact Bool.noConfusion ((z2).symm.trans h)
        rename_i hN
        clear hN
        conv => whnf
        repeat first
          | (refine DRAW.seek ?_; repeat (first | refine TRYD.take ?_ | refine TRYD.next ?_); conv => whnf)
          | (refine HOLD.mk (by first | exact trivial | exact ⟨⟨rfl, rfl⟩, trivial⟩ | exact ⟨⟨rfl, rfl⟩, ⟨rfl, rfl⟩, trivial⟩) ?_; (conv => whnf))
          | (refine CALL0.cutBy lvRuns _ _ _ _ _ (leL_refl _) (c_ownNil ..) rfl ?_; conv => whnf)
          | (refine CALL0.by (c_ownNil ..) rfl ?_; conv => whnf)
          | (refine CALLQ.mk _ _ _ (leL_refl _) (c_ownNil ..) rfl ?_; conv => whnf)
          | (refine CALL0.cutBy lvRuns _ _ _ _ _ (leL_refl _) (c_sameActsNil ..) rfl ?_; conv => whnf)
          | (refine CALL0.by (c_sameActsNil ..) rfl ?_; conv => whnf)
          | (refine CALLQ.mk _ _ _ (leL_refl _) (c_sameActsNil ..) rfl ?_; conv => whnf)
        split
        rotate_left
        · rename_i h
          exact Bool.noConfusion ((eE).symm.trans h)
        rename_i hN
        clear hN
        conv => whnf
        split
        rotate_left
        · rename_i h
          exact Bool.noConfusion ((e2).symm.trans h)
        rename_i hN
        clear hN
        conv => whnf
        repeat first
          | (refine DRAW.seek ?_; repeat (first | refine TRYD.take ?_ | refine TRYD.next ?_); conv => whnf)
          | (refine HOLD.mk (by first | exact trivial | exact ⟨⟨rfl, rfl⟩, trivial⟩ | exact ⟨⟨rfl, rfl⟩, ⟨rfl, rfl⟩, trivial⟩) ?_; (conv => whnf))
          | (refine CALL0.cutBy lvRuns _ _ _ _ _ (leL_refl _) (hA ..) rfl ?_; conv => whnf)
          | (refine CALL0.by (hA ..) rfl ?_; conv => whnf)
          | (refine CALLQ.mk _ _ _ (leL_refl _) (hA ..) rfl ?_; conv => whnf)
        exact ⟨rfl, rfl⟩
      · refine mk h_nacellelaw05_ControlRuns rfl rfl ?_
        conv => whnf
        repeat first
          | (refine DRAW.seek ?_; repeat (first | refine TRYD.take ?_ | refine TRYD.next ?_); conv => whnf)
          | (refine HOLD.mk (by first | exact trivial | exact ⟨⟨rfl, rfl⟩, trivial⟩ | exact ⟨⟨rfl, rfl⟩, ⟨rfl, rfl⟩, trivial⟩) ?_; (conv => whnf))
          | (refine CALL0.cutBy lvRuns _ _ _ _ _ (leL_refl _) (hS ..) rfl ?_; conv => whnf)
          | (refine CALL0.by (hS ..) rfl ?_; conv => whnf)
          | (refine CALLQ.mk _ _ _ (leL_refl _) (hS ..) rfl ?_; conv => whnf)
        split
        rotate_left
        · rename_i h
          exact Bool.noConfusion ((q24).symm.trans h)
        rename_i hN
        clear hN
        conv => whnf
        split
        · rename_i h
          exact Bool.noConfusion ((q25).symm.trans h)
        rename_i hN
        clear hN
        conv => whnf
        repeat first
          | (refine DRAW.seek ?_; repeat (first | refine TRYD.take ?_ | refine TRYD.next ?_); conv => whnf)
          | (refine HOLD.mk (by first | exact trivial | exact ⟨⟨rfl, rfl⟩, trivial⟩ | exact ⟨⟨rfl, rfl⟩, ⟨rfl, rfl⟩, trivial⟩) ?_; (conv => whnf))
          | (refine CALL0.cutBy lvRuns _ _ _ _ _ (leL_refl _) (c_machine ..) rfl ?_; conv => whnf)
          | (refine CALL0.by (c_machine ..) rfl ?_; conv => whnf)
          | (refine CALLQ.mk _ _ _ (leL_refl _) (c_machine ..) rfl ?_; conv => whnf)
        split
        rotate_left
        · rename_i h
          have h' : decide (n ≤ 1073741824) = false := h
          simp at h' <;> omega
        conv => whnf
        repeat first
          | (refine DRAW.seek ?_; repeat (first | refine TRYD.take ?_ | refine TRYD.next ?_); conv => whnf)
          | (refine HOLD.mk (by first | exact trivial | exact ⟨⟨rfl, rfl⟩, trivial⟩ | exact ⟨⟨rfl, rfl⟩, ⟨rfl, rfl⟩, trivial⟩) ?_; (conv => whnf))
          | (refine CALL0.cutBy lvRuns _ _ _ _ _ (leL_refl _) (hRun ..) rfl ?_; conv => whnf)
          | (refine CALL0.by (hRun ..) rfl ?_; conv => whnf)
          | (refine CALLQ.mk _ _ _ (leL_refl _) (hRun ..) rfl ?_; conv => whnf)
        split
        rotate_left
        · rename_i h
          have h' : decide (n ≤ 1073741824) = false := h
          simp at h' <;> omega
        conv => whnf
        repeat first
          | (refine DRAW.seek ?_; repeat (first | refine TRYD.take ?_ | refine TRYD.next ?_); conv => whnf)
          | (refine HOLD.mk (by first | exact trivial | exact ⟨⟨rfl, rfl⟩, trivial⟩ | exact ⟨⟨rfl, rfl⟩, ⟨rfl, rfl⟩, trivial⟩) ?_; (conv => whnf))
          | (refine CALL0.cutBy lvRuns _ _ _ _ _ (leL_refl _) (hRamp ..) rfl ?_; conv => whnf)
          | (refine CALL0.by (hRamp ..) rfl ?_; conv => whnf)
          | (refine CALLQ.mk _ _ _ (leL_refl _) (hRamp ..) rfl ?_; conv => whnf)
          | (refine CALL0.cutBy lvRuns _ _ _ _ _ (leL_refl _) (hM ..) rfl ?_; conv => whnf)
          | (refine CALL0.by (hM ..) rfl ?_; conv => whnf)
          | (refine CALLQ.mk _ _ _ (leL_refl _) (hM ..) rfl ?_; conv => whnf)
        repeat first
          | (refine DRAW.seek ?_; repeat (first | refine TRYD.take ?_ | refine TRYD.next ?_); conv => whnf)
          | (refine HOLD.mk (by first | exact trivial | exact ⟨⟨rfl, rfl⟩, trivial⟩ | exact ⟨⟨rfl, rfl⟩, ⟨rfl, rfl⟩, trivial⟩) ?_; (conv => whnf))
          | (refine CALL0.cutBy lvRuns _ _ _ _ _ (leL_refl _) (hW ..) rfl ?_; conv => whnf)
          | (refine CALL0.by (hW ..) rfl ?_; conv => whnf)
          | (refine CALLQ.mk _ _ _ (leL_refl _) (hW ..) rfl ?_; conv => whnf)
          | (refine CALL0.cutBy lvRuns _ _ _ _ _ (leL_refl _) (hCR ..) rfl ?_; conv => whnf)
          | (refine CALL0.by (hCR ..) rfl ?_; conv => whnf)
          | (refine CALLQ.mk _ _ _ (leL_refl _) (hCR ..) rfl ?_; conv => whnf)
        split
        · rename_i h
          exact Bool.noConfusion ((zE).symm.trans h)
        rename_i hN
        clear hN
        conv => whnf
        split
        · rename_i h
          exact Bool.noConfusion ((z2).symm.trans h)
        rename_i hN
        clear hN
        conv => whnf
        repeat first
          | (refine DRAW.seek ?_; repeat (first | refine TRYD.take ?_ | refine TRYD.next ?_); conv => whnf)
          | (refine HOLD.mk (by first | exact trivial | exact ⟨⟨rfl, rfl⟩, trivial⟩ | exact ⟨⟨rfl, rfl⟩, ⟨rfl, rfl⟩, trivial⟩) ?_; (conv => whnf))
          | (refine CALL0.cutBy lvRuns _ _ _ _ _ (leL_refl _) (c_ownNil ..) rfl ?_; conv => whnf)
          | (refine CALL0.by (c_ownNil ..) rfl ?_; conv => whnf)
          | (refine CALLQ.mk _ _ _ (leL_refl _) (c_ownNil ..) rfl ?_; conv => whnf)
          | (refine CALL0.cutBy lvRuns _ _ _ _ _ (leL_refl _) (c_sameActsNil ..) rfl ?_; conv => whnf)
          | (refine CALL0.by (c_sameActsNil ..) rfl ?_; conv => whnf)
          | (refine CALLQ.mk _ _ _ (leL_refl _) (c_sameActsNil ..) rfl ?_; conv => whnf)
        split
        rotate_left
        · rename_i h
          exact Bool.noConfusion ((eE).symm.trans h)
        rename_i hN
        clear hN
        conv => whnf
        split
        rotate_left
        · rename_i h
          exact Bool.noConfusion ((e2).symm.trans h)
        rename_i hN
        clear hN
        conv => whnf
        repeat first
          | (refine DRAW.seek ?_; repeat (first | refine TRYD.take ?_ | refine TRYD.next ?_); conv => whnf)
          | (refine HOLD.mk (by first | exact trivial | exact ⟨⟨rfl, rfl⟩, trivial⟩ | exact ⟨⟨rfl, rfl⟩, ⟨rfl, rfl⟩, trivial⟩) ?_; (conv => whnf))
          | (refine CALL0.cutBy lvRuns _ _ _ _ _ (leL_refl _) (hA ..) rfl ?_; conv => whnf)
          | (refine CALL0.by (hA ..) rfl ?_; conv => whnf)
          | (refine CALLQ.mk _ _ _ (leL_refl _) (hA ..) rfl ?_; conv => whnf)
        exact ⟨rfl, rfl⟩
  | false =>
    have z2 : E2 = 0 := by simpa using q2
    rw [q2, cond_false] at hRamp
    have hz : firstS (rampF w n M) (n + 1) 0 = 0 ∧ n ≤ 1024 := by
      have h := hE2.symm.trans z2
      unfold rampE at h
      cases q : decide ((n : Int) > 1024) with
      | true => rw [q] at h; cases h
      | false => rw [q, cond_false] at h; have := of_decide_eq_false q; exact ⟨h, by omega⟩
    have hRR := fun up => hRR up hz.1
    rw [← hR] at hRR
    have hn2 := hz.2
    subst z2
    clear hE2 hR
    rcases hq with q24 | ⟨q24, q25⟩
    rotate_left
    · have : (n : Int) = 1025 := by simpa using q25
      omega
    rcases hE with he | ⟨he, he2⟩
    · rw [he] at hM
      clear hW
      refine mk h_nacellelaw05_ControlRuns rfl rfl ?_
      conv => whnf
      repeat first
        | (refine DRAW.seek ?_; repeat (first | refine TRYD.take ?_ | refine TRYD.next ?_); conv => whnf)
        | (refine HOLD.mk (by first | exact trivial | exact ⟨⟨rfl, rfl⟩, trivial⟩ | exact ⟨⟨rfl, rfl⟩, ⟨rfl, rfl⟩, trivial⟩) ?_; (conv => whnf))
        | (refine CALL0.cutBy lvRuns _ _ _ _ _ (leL_refl _) (hS ..) rfl ?_; conv => whnf)
        | (refine CALL0.by (hS ..) rfl ?_; conv => whnf)
        | (refine CALLQ.mk _ _ _ (leL_refl _) (hS ..) rfl ?_; conv => whnf)
      split
      · rename_i h
        exact Bool.noConfusion ((q24).symm.trans h)
      rename_i hN
      clear hN
      conv => whnf
      repeat first
        | (refine DRAW.seek ?_; repeat (first | refine TRYD.take ?_ | refine TRYD.next ?_); conv => whnf)
        | (refine HOLD.mk (by first | exact trivial | exact ⟨⟨rfl, rfl⟩, trivial⟩ | exact ⟨⟨rfl, rfl⟩, ⟨rfl, rfl⟩, trivial⟩) ?_; (conv => whnf))
        | (refine CALL0.cutBy lvRuns _ _ _ _ _ (leL_refl _) (c_machine ..) rfl ?_; conv => whnf)
        | (refine CALL0.by (c_machine ..) rfl ?_; conv => whnf)
        | (refine CALLQ.mk _ _ _ (leL_refl _) (c_machine ..) rfl ?_; conv => whnf)
      split
      rotate_left
      · rename_i h
        have h' : decide (n ≤ 1073741824) = false := h
        simp at h' <;> omega
      conv => whnf
      repeat first
        | (refine DRAW.seek ?_; repeat (first | refine TRYD.take ?_ | refine TRYD.next ?_); conv => whnf)
        | (refine HOLD.mk (by first | exact trivial | exact ⟨⟨rfl, rfl⟩, trivial⟩ | exact ⟨⟨rfl, rfl⟩, ⟨rfl, rfl⟩, trivial⟩) ?_; (conv => whnf))
        | (refine CALL0.cutBy lvRuns _ _ _ _ _ (leL_refl _) (hRun ..) rfl ?_; conv => whnf)
        | (refine CALL0.by (hRun ..) rfl ?_; conv => whnf)
        | (refine CALLQ.mk _ _ _ (leL_refl _) (hRun ..) rfl ?_; conv => whnf)
      split
      rotate_left
      · rename_i h
        have h' : decide (n ≤ 1073741824) = false := h
        simp at h' <;> omega
      conv => whnf
      repeat first
        | (refine DRAW.seek ?_; repeat (first | refine TRYD.take ?_ | refine TRYD.next ?_); conv => whnf)
        | (refine HOLD.mk (by first | exact trivial | exact ⟨⟨rfl, rfl⟩, trivial⟩ | exact ⟨⟨rfl, rfl⟩, ⟨rfl, rfl⟩, trivial⟩) ?_; (conv => whnf))
        | (refine CALL0.cutBy lvRuns _ _ _ _ _ (leL_refl _) (hRamp ..) rfl ?_; conv => whnf)
        | (refine CALL0.by (hRamp ..) rfl ?_; conv => whnf)
        | (refine CALLQ.mk _ _ _ (leL_refl _) (hRamp ..) rfl ?_; conv => whnf)
        | (refine CALL0.cutBy lvRuns _ _ _ _ _ (leL_refl _) (hM ..) rfl ?_; conv => whnf)
        | (refine CALL0.by (hM ..) rfl ?_; conv => whnf)
        | (refine CALLQ.mk _ _ _ (leL_refl _) (hM ..) rfl ?_; conv => whnf)
      split
      · rename_i h
        exact Bool.noConfusion ((zE).symm.trans h)
      rename_i hN
      clear hN
      conv => whnf
      repeat first
        | (refine DRAW.seek ?_; repeat (first | refine TRYD.take ?_ | refine TRYD.next ?_); conv => whnf)
        | (refine HOLD.mk (by first | exact trivial | exact ⟨⟨rfl, rfl⟩, trivial⟩ | exact ⟨⟨rfl, rfl⟩, ⟨rfl, rfl⟩, trivial⟩) ?_; (conv => whnf))
        | (refine CALL0.cutBy lvRuns _ _ _ _ _ (leL_refl _) (hCR ..) rfl ?_; conv => whnf)
        | (refine CALL0.by (hCR ..) rfl ?_; conv => whnf)
        | (refine CALLQ.mk _ _ _ (leL_refl _) (hCR ..) rfl ?_; conv => whnf)
      split
      · rename_i h
        exact Bool.noConfusion ((zE).symm.trans h)
      rename_i hN
      clear hN
      conv => whnf
      repeat first
        | (refine DRAW.seek ?_; repeat (first | refine TRYD.take ?_ | refine TRYD.next ?_); conv => whnf)
        | (refine HOLD.mk (by first | exact trivial | exact ⟨⟨rfl, rfl⟩, trivial⟩ | exact ⟨⟨rfl, rfl⟩, ⟨rfl, rfl⟩, trivial⟩) ?_; (conv => whnf))
        | (refine CALL0.cutBy lvRuns _ _ _ _ _ (leL_refl _) (hRR ..) rfl ?_; conv => whnf)
        | (refine CALL0.by (hRR ..) rfl ?_; conv => whnf)
        | (refine CALLQ.mk _ _ _ (leL_refl _) (hRR ..) rfl ?_; conv => whnf)
      repeat first
        | (refine DRAW.seek ?_; repeat (first | refine TRYD.take ?_ | refine TRYD.next ?_); conv => whnf)
        | (refine HOLD.mk (by first | exact trivial | exact ⟨⟨rfl, rfl⟩, trivial⟩ | exact ⟨⟨rfl, rfl⟩, ⟨rfl, rfl⟩, trivial⟩) ?_; (conv => whnf))
        | (refine CALL0.cutBy lvRuns _ _ _ _ _ (leL_refl _) (c_ownNil ..) rfl ?_; conv => whnf)
        | (refine CALL0.by (c_ownNil ..) rfl ?_; conv => whnf)
        | (refine CALLQ.mk _ _ _ (leL_refl _) (c_ownNil ..) rfl ?_; conv => whnf)
        | (refine CALL0.cutBy lvRuns _ _ _ _ _ (leL_refl _) (c_sameActsNil ..) rfl ?_; conv => whnf)
        | (refine CALL0.by (c_sameActsNil ..) rfl ?_; conv => whnf)
        | (refine CALLQ.mk _ _ _ (leL_refl _) (c_sameActsNil ..) rfl ?_; conv => whnf)
      split
      rotate_left
      · rename_i h
        exact Bool.noConfusion ((eE).symm.trans h)
      rename_i hN
      clear hN
      conv => whnf
      split
      rotate_left
      · rename_i h
        exact Bool.noConfusion ((eR).symm.trans h)
      rename_i hN
      clear hN
      conv => whnf
      repeat first
        | (refine DRAW.seek ?_; repeat (first | refine TRYD.take ?_ | refine TRYD.next ?_); conv => whnf)
        | (refine HOLD.mk (by first | exact trivial | exact ⟨⟨rfl, rfl⟩, trivial⟩ | exact ⟨⟨rfl, rfl⟩, ⟨rfl, rfl⟩, trivial⟩) ?_; (conv => whnf))
        | (refine CALL0.cutBy lvRuns _ _ _ _ _ (leL_refl _) (hA ..) rfl ?_; conv => whnf)
        | (refine CALL0.by (hA ..) rfl ?_; conv => whnf)
        | (refine CALLQ.mk _ _ _ (leL_refl _) (hA ..) rfl ?_; conv => whnf)
      exact ⟨rfl, rfl⟩
    · rw [he] at hM
      rw [he2] at hW
      refine mk h_nacellelaw05_ControlRuns rfl rfl ?_
      conv => whnf
      repeat first
        | (refine DRAW.seek ?_; repeat (first | refine TRYD.take ?_ | refine TRYD.next ?_); conv => whnf)
        | (refine HOLD.mk (by first | exact trivial | exact ⟨⟨rfl, rfl⟩, trivial⟩ | exact ⟨⟨rfl, rfl⟩, ⟨rfl, rfl⟩, trivial⟩) ?_; (conv => whnf))
        | (refine CALL0.cutBy lvRuns _ _ _ _ _ (leL_refl _) (hS ..) rfl ?_; conv => whnf)
        | (refine CALL0.by (hS ..) rfl ?_; conv => whnf)
        | (refine CALLQ.mk _ _ _ (leL_refl _) (hS ..) rfl ?_; conv => whnf)
      split
      · rename_i h
        exact Bool.noConfusion ((q24).symm.trans h)
      rename_i hN
      clear hN
      conv => whnf
      repeat first
        | (refine DRAW.seek ?_; repeat (first | refine TRYD.take ?_ | refine TRYD.next ?_); conv => whnf)
        | (refine HOLD.mk (by first | exact trivial | exact ⟨⟨rfl, rfl⟩, trivial⟩ | exact ⟨⟨rfl, rfl⟩, ⟨rfl, rfl⟩, trivial⟩) ?_; (conv => whnf))
        | (refine CALL0.cutBy lvRuns _ _ _ _ _ (leL_refl _) (c_machine ..) rfl ?_; conv => whnf)
        | (refine CALL0.by (c_machine ..) rfl ?_; conv => whnf)
        | (refine CALLQ.mk _ _ _ (leL_refl _) (c_machine ..) rfl ?_; conv => whnf)
      split
      rotate_left
      · rename_i h
        have h' : decide (n ≤ 1073741824) = false := h
        simp at h' <;> omega
      conv => whnf
      repeat first
        | (refine DRAW.seek ?_; repeat (first | refine TRYD.take ?_ | refine TRYD.next ?_); conv => whnf)
        | (refine HOLD.mk (by first | exact trivial | exact ⟨⟨rfl, rfl⟩, trivial⟩ | exact ⟨⟨rfl, rfl⟩, ⟨rfl, rfl⟩, trivial⟩) ?_; (conv => whnf))
        | (refine CALL0.cutBy lvRuns _ _ _ _ _ (leL_refl _) (hRun ..) rfl ?_; conv => whnf)
        | (refine CALL0.by (hRun ..) rfl ?_; conv => whnf)
        | (refine CALLQ.mk _ _ _ (leL_refl _) (hRun ..) rfl ?_; conv => whnf)
      split
      rotate_left
      · rename_i h
        have h' : decide (n ≤ 1073741824) = false := h
        simp at h' <;> omega
      conv => whnf
      repeat first
        | (refine DRAW.seek ?_; repeat (first | refine TRYD.take ?_ | refine TRYD.next ?_); conv => whnf)
        | (refine HOLD.mk (by first | exact trivial | exact ⟨⟨rfl, rfl⟩, trivial⟩ | exact ⟨⟨rfl, rfl⟩, ⟨rfl, rfl⟩, trivial⟩) ?_; (conv => whnf))
        | (refine CALL0.cutBy lvRuns _ _ _ _ _ (leL_refl _) (hRamp ..) rfl ?_; conv => whnf)
        | (refine CALL0.by (hRamp ..) rfl ?_; conv => whnf)
        | (refine CALLQ.mk _ _ _ (leL_refl _) (hRamp ..) rfl ?_; conv => whnf)
        | (refine CALL0.cutBy lvRuns _ _ _ _ _ (leL_refl _) (hM ..) rfl ?_; conv => whnf)
        | (refine CALL0.by (hM ..) rfl ?_; conv => whnf)
        | (refine CALLQ.mk _ _ _ (leL_refl _) (hM ..) rfl ?_; conv => whnf)
      repeat first
        | (refine DRAW.seek ?_; repeat (first | refine TRYD.take ?_ | refine TRYD.next ?_); conv => whnf)
        | (refine HOLD.mk (by first | exact trivial | exact ⟨⟨rfl, rfl⟩, trivial⟩ | exact ⟨⟨rfl, rfl⟩, ⟨rfl, rfl⟩, trivial⟩) ?_; (conv => whnf))
        | (refine CALL0.cutBy lvRuns _ _ _ _ _ (leL_refl _) (hW ..) rfl ?_; conv => whnf)
        | (refine CALL0.by (hW ..) rfl ?_; conv => whnf)
        | (refine CALLQ.mk _ _ _ (leL_refl _) (hW ..) rfl ?_; conv => whnf)
        | (refine CALL0.cutBy lvRuns _ _ _ _ _ (leL_refl _) (hCR ..) rfl ?_; conv => whnf)
        | (refine CALL0.by (hCR ..) rfl ?_; conv => whnf)
        | (refine CALLQ.mk _ _ _ (leL_refl _) (hCR ..) rfl ?_; conv => whnf)
      split
      · rename_i h
        exact Bool.noConfusion ((zE).symm.trans h)
      rename_i hN
      clear hN
      conv => whnf
      repeat first
        | (refine DRAW.seek ?_; repeat (first | refine TRYD.take ?_ | refine TRYD.next ?_); conv => whnf)
        | (refine HOLD.mk (by first | exact trivial | exact ⟨⟨rfl, rfl⟩, trivial⟩ | exact ⟨⟨rfl, rfl⟩, ⟨rfl, rfl⟩, trivial⟩) ?_; (conv => whnf))
        | (refine CALL0.cutBy lvRuns _ _ _ _ _ (leL_refl _) (hRR ..) rfl ?_; conv => whnf)
        | (refine CALL0.by (hRR ..) rfl ?_; conv => whnf)
        | (refine CALLQ.mk _ _ _ (leL_refl _) (hRR ..) rfl ?_; conv => whnf)
      repeat first
        | (refine DRAW.seek ?_; repeat (first | refine TRYD.take ?_ | refine TRYD.next ?_); conv => whnf)
        | (refine HOLD.mk (by first | exact trivial | exact ⟨⟨rfl, rfl⟩, trivial⟩ | exact ⟨⟨rfl, rfl⟩, ⟨rfl, rfl⟩, trivial⟩) ?_; (conv => whnf))
        | (refine CALL0.cutBy lvRuns _ _ _ _ _ (leL_refl _) (c_ownNil ..) rfl ?_; conv => whnf)
        | (refine CALL0.by (c_ownNil ..) rfl ?_; conv => whnf)
        | (refine CALLQ.mk _ _ _ (leL_refl _) (c_ownNil ..) rfl ?_; conv => whnf)
        | (refine CALL0.cutBy lvRuns _ _ _ _ _ (leL_refl _) (c_sameActsNil ..) rfl ?_; conv => whnf)
        | (refine CALL0.by (c_sameActsNil ..) rfl ?_; conv => whnf)
        | (refine CALLQ.mk _ _ _ (leL_refl _) (c_sameActsNil ..) rfl ?_; conv => whnf)
      split
      rotate_left
      · rename_i h
        exact Bool.noConfusion ((eE).symm.trans h)
      rename_i hN
      clear hN
      conv => whnf
      split
      rotate_left
      · rename_i h
        exact Bool.noConfusion ((eR).symm.trans h)
      rename_i hN
      clear hN
      conv => whnf
      repeat first
        | (refine DRAW.seek ?_; repeat (first | refine TRYD.take ?_ | refine TRYD.next ?_); conv => whnf)
        | (refine HOLD.mk (by first | exact trivial | exact ⟨⟨rfl, rfl⟩, trivial⟩ | exact ⟨⟨rfl, rfl⟩, ⟨rfl, rfl⟩, trivial⟩) ?_; (conv => whnf))
        | (refine CALL0.cutBy lvRuns _ _ _ _ _ (leL_refl _) (hA ..) rfl ?_; conv => whnf)
        | (refine CALL0.by (hA ..) rfl ?_; conv => whnf)
        | (refine CALLQ.mk _ _ _ (leL_refl _) (hA ..) rfl ?_; conv => whnf)
      exact ⟨rfl, rfl⟩

set_option maxHeartbeats 16000000 in
theorem runs_ok (up : List Ces) (hk : gl g_control_kinds = kindsI) (hg : gl g_internal_strconv_uint64pow10 = powI) (m : Mc) (n : Nat) (hn : n ≤ 1024) (w : Nat → Int) (M : Int) (hs : m.smallB = true)
    (q24 : decide ((n : Int) > 24) = false) (he : m.err = 0) (hW0 : windE m n w = 0) (hwd : ∀ i, i < n → 0 ≤ w i ∧ w i ≤ m.wind)
    (hRun : ∀ up, Cs gl n_control_Run up [m.iv, .lst none 1 n fun i => [.int .i64 (w i)]] (.tup [.lst (some (tgR n)) 5 n fun i => (actW m w i).cs, .int .i64 0]) up) :
    Cs gl n_nacellelaw05_ControlRuns up [m.iv, .lst none 1 n fun i => [.int .i64 (w i)], .int .i64 M] (.bool true) up := by
  have hm := Mc.err_ok he
  have hS := fun up => c_rSmall (gl := gl) up m
  rw [hs] at hS
  have hA := fun up => c_awake (gl := gl) up hk hg
  have hM := fun up => c_rMachine (gl := gl) up m
  rw [he] at hM
  have hW := fun up => c_rCheckWinds (gl := gl) up m n (by omega) w
  rw [hW0] at hW
  have hRamp := fun up => c_Ramps (gl := gl) up n (by omega) w M
  have hCR := fun up => c_rCheckRamps (gl := gl) up n (by omega) w M
  have hRR := fun up => c_rRamps (gl := gl) up n (by omega) w M
  have hrR := fun up => c_rRun (gl := gl) up m hm n hn w hwd
  have hOw := fun up => c_own (gl := gl) up n (by omega) (actW m w)
  have hSA := fun up => c_rSameActs (gl := gl) up n (by omega) (actW m w)
  obtain ⟨E2, hE2⟩ : ∃ E, E = rampE n w M := ⟨_, rfl⟩
  rw [← hE2] at hRamp hCR
  obtain ⟨R, hR⟩ : ∃ R, R = rampN w M (n - 1) 1 := ⟨_, rfl⟩
  rw [← hR] at hRamp
  have e2 : (E2 == E2) = true := beq_self_eq_true E2
  have eR : (R == R) = true := beq_self_eq_true R
  cases q2 : (E2 != 0) with
  | true =>
    have z2 : (E2 == 0) = false := by simpa using q2
    rw [q2, cond_true] at hRamp
    clear hE2 hR hRR eR
    refine mk h_nacellelaw05_ControlRuns rfl rfl ?_
    conv => whnf
    repeat first
      | (refine DRAW.seek ?_; repeat (first | refine TRYD.take ?_ | refine TRYD.next ?_); conv => whnf)
      | (refine HOLD.mk (by first | exact trivial | exact ⟨⟨rfl, rfl⟩, trivial⟩ | exact ⟨⟨rfl, rfl⟩, ⟨rfl, rfl⟩, trivial⟩) ?_; (conv => whnf))
      | (refine CALL0.cutBy lvRuns _ _ _ _ _ (leL_refl _) (hS ..) rfl ?_; conv => whnf)
      | (refine CALL0.by (hS ..) rfl ?_; conv => whnf)
      | (refine CALLQ.mk _ _ _ (leL_refl _) (hS ..) rfl ?_; conv => whnf)
    split
    · rename_i h
      exact Bool.noConfusion ((q24).symm.trans h)
    rename_i hN
    clear hN
    conv => whnf
    repeat first
      | (refine DRAW.seek ?_; repeat (first | refine TRYD.take ?_ | refine TRYD.next ?_); conv => whnf)
      | (refine HOLD.mk (by first | exact trivial | exact ⟨⟨rfl, rfl⟩, trivial⟩ | exact ⟨⟨rfl, rfl⟩, ⟨rfl, rfl⟩, trivial⟩) ?_; (conv => whnf))
      | (refine CALL0.cutBy lvRuns _ _ _ _ _ (leL_refl _) (c_machine ..) rfl ?_; conv => whnf)
      | (refine CALL0.by (c_machine ..) rfl ?_; conv => whnf)
      | (refine CALLQ.mk _ _ _ (leL_refl _) (c_machine ..) rfl ?_; conv => whnf)
    split
    rotate_left
    · rename_i h
      have h' : decide (n ≤ 1073741824) = false := h
      simp at h' <;> omega
    conv => whnf
    repeat first
      | (refine DRAW.seek ?_; repeat (first | refine TRYD.take ?_ | refine TRYD.next ?_); conv => whnf)
      | (refine HOLD.mk (by first | exact trivial | exact ⟨⟨rfl, rfl⟩, trivial⟩ | exact ⟨⟨rfl, rfl⟩, ⟨rfl, rfl⟩, trivial⟩) ?_; (conv => whnf))
      | (refine CALL0.cutBy lvRuns _ _ _ _ _ (leL_refl _) (hRun ..) rfl ?_; conv => whnf)
      | (refine CALL0.by (hRun ..) rfl ?_; conv => whnf)
      | (refine CALLQ.mk _ _ _ (leL_refl _) (hRun ..) rfl ?_; conv => whnf)
    split
    rotate_left
    · rename_i h
      have h' : decide (n ≤ 1073741824) = false := h
      simp at h' <;> omega
    conv => whnf
    repeat first
      | (refine DRAW.seek ?_; repeat (first | refine TRYD.take ?_ | refine TRYD.next ?_); conv => whnf)
      | (refine HOLD.mk (by first | exact trivial | exact ⟨⟨rfl, rfl⟩, trivial⟩ | exact ⟨⟨rfl, rfl⟩, ⟨rfl, rfl⟩, trivial⟩) ?_; (conv => whnf))
      | (refine CALL0.cutBy lvRuns _ _ _ _ _ (leL_refl _) (hRamp ..) rfl ?_; conv => whnf)
      | (refine CALL0.by (hRamp ..) rfl ?_; conv => whnf)
      | (refine CALLQ.mk _ _ _ (leL_refl _) (hRamp ..) rfl ?_; conv => whnf)
      | (refine CALL0.cutBy lvRuns _ _ _ _ _ (leL_refl _) (hM ..) rfl ?_; conv => whnf)
      | (refine CALL0.by (hM ..) rfl ?_; conv => whnf)
      | (refine CALLQ.mk _ _ _ (leL_refl _) (hM ..) rfl ?_; conv => whnf)
    repeat first
      | (refine DRAW.seek ?_; repeat (first | refine TRYD.take ?_ | refine TRYD.next ?_); conv => whnf)
      | (refine HOLD.mk (by first | exact trivial | exact ⟨⟨rfl, rfl⟩, trivial⟩ | exact ⟨⟨rfl, rfl⟩, ⟨rfl, rfl⟩, trivial⟩) ?_; (conv => whnf))
      | (refine CALL0.cutBy lvRuns _ _ _ _ _ (leL_refl _) (hW ..) rfl ?_; conv => whnf)
      | (refine CALL0.by (hW ..) rfl ?_; conv => whnf)
      | (refine CALLQ.mk _ _ _ (leL_refl _) (hW ..) rfl ?_; conv => whnf)
      | (refine CALL0.cutBy lvRuns _ _ _ _ _ (leL_refl _) (hCR ..) rfl ?_; conv => whnf)
      | (refine CALL0.by (hCR ..) rfl ?_; conv => whnf)
      | (refine CALLQ.mk _ _ _ (leL_refl _) (hCR ..) rfl ?_; conv => whnf)
      | (refine CALL0.cutBy lvRuns _ _ _ _ _ (leL_refl _) (hrR ..) rfl ?_; conv => whnf)
      | (refine CALL0.by (hrR ..) rfl ?_; conv => whnf)
      | (refine CALLQ.mk _ _ _ (leL_refl _) (hrR ..) rfl ?_; conv => whnf)
    split
    · rename_i h
      exact Bool.noConfusion ((z2).symm.trans h)
    rename_i hN
    clear hN
    conv => whnf
    repeat first
      | (refine DRAW.seek ?_; repeat (first | refine TRYD.take ?_ | refine TRYD.next ?_); conv => whnf)
      | (refine HOLD.mk (by first | exact trivial | exact ⟨⟨rfl, rfl⟩, trivial⟩ | exact ⟨⟨rfl, rfl⟩, ⟨rfl, rfl⟩, trivial⟩) ?_; (conv => whnf))
      | (refine CALL0.cutBy lvRuns _ _ _ _ _ (leL_refl _) (hOw ..) rfl ?_; conv => whnf)
      | (refine CALL0.by (hOw ..) rfl ?_; conv => whnf)
      | (refine CALLQ.mk _ _ _ (leL_refl _) (hOw ..) rfl ?_; conv => whnf)
      | (refine CALL0.cutBy lvRuns _ _ _ _ _ (leL_refl _) (hSA ..) rfl ?_; conv => whnf)
      | (refine CALL0.by (hSA ..) rfl ?_; conv => whnf)
      | (refine CALLQ.mk _ _ _ (leL_refl _) (hSA ..) rfl ?_; conv => whnf)
    split
    rotate_left
    · rename_i h
      exact Bool.noConfusion ((e2).symm.trans h)
    rename_i hN
    clear hN
    conv => whnf
    repeat first
      | (refine DRAW.seek ?_; repeat (first | refine TRYD.take ?_ | refine TRYD.next ?_); conv => whnf)
      | (refine HOLD.mk (by first | exact trivial | exact ⟨⟨rfl, rfl⟩, trivial⟩ | exact ⟨⟨rfl, rfl⟩, ⟨rfl, rfl⟩, trivial⟩) ?_; (conv => whnf))
      | (refine CALL0.cutBy lvRuns _ _ _ _ _ (leL_refl _) (hA ..) rfl ?_; conv => whnf)
      | (refine CALL0.by (hA ..) rfl ?_; conv => whnf)
      | (refine CALLQ.mk _ _ _ (leL_refl _) (hA ..) rfl ?_; conv => whnf)
    exact ⟨rfl, rfl⟩
  | false =>
    have z2 : E2 = 0 := by simpa using q2
    rw [q2, cond_false] at hRamp
    have hz : firstS (rampF w n M) (n + 1) 0 = 0 := by
      have h := hE2.symm.trans z2
      unfold rampE at h
      cases q : decide ((n : Int) > 1024) with
      | true => rw [q] at h; cases h
      | false => rw [q, cond_false] at h; exact h
    have hRR := fun up => hRR up hz
    rw [← hR] at hRR
    subst z2
    clear hE2 hR
    refine mk h_nacellelaw05_ControlRuns rfl rfl ?_
    conv => whnf
    repeat first
      | (refine DRAW.seek ?_; repeat (first | refine TRYD.take ?_ | refine TRYD.next ?_); conv => whnf)
      | (refine HOLD.mk (by first | exact trivial | exact ⟨⟨rfl, rfl⟩, trivial⟩ | exact ⟨⟨rfl, rfl⟩, ⟨rfl, rfl⟩, trivial⟩) ?_; (conv => whnf))
      | (refine CALL0.cutBy lvRuns _ _ _ _ _ (leL_refl _) (hS ..) rfl ?_; conv => whnf)
      | (refine CALL0.by (hS ..) rfl ?_; conv => whnf)
      | (refine CALLQ.mk _ _ _ (leL_refl _) (hS ..) rfl ?_; conv => whnf)
    split
    · rename_i h
      exact Bool.noConfusion ((q24).symm.trans h)
    rename_i hN
    clear hN
    conv => whnf
    repeat first
      | (refine DRAW.seek ?_; repeat (first | refine TRYD.take ?_ | refine TRYD.next ?_); conv => whnf)
      | (refine HOLD.mk (by first | exact trivial | exact ⟨⟨rfl, rfl⟩, trivial⟩ | exact ⟨⟨rfl, rfl⟩, ⟨rfl, rfl⟩, trivial⟩) ?_; (conv => whnf))
      | (refine CALL0.cutBy lvRuns _ _ _ _ _ (leL_refl _) (c_machine ..) rfl ?_; conv => whnf)
      | (refine CALL0.by (c_machine ..) rfl ?_; conv => whnf)
      | (refine CALLQ.mk _ _ _ (leL_refl _) (c_machine ..) rfl ?_; conv => whnf)
    split
    rotate_left
    · rename_i h
      have h' : decide (n ≤ 1073741824) = false := h
      simp at h' <;> omega
    conv => whnf
    repeat first
      | (refine DRAW.seek ?_; repeat (first | refine TRYD.take ?_ | refine TRYD.next ?_); conv => whnf)
      | (refine HOLD.mk (by first | exact trivial | exact ⟨⟨rfl, rfl⟩, trivial⟩ | exact ⟨⟨rfl, rfl⟩, ⟨rfl, rfl⟩, trivial⟩) ?_; (conv => whnf))
      | (refine CALL0.cutBy lvRuns _ _ _ _ _ (leL_refl _) (hRun ..) rfl ?_; conv => whnf)
      | (refine CALL0.by (hRun ..) rfl ?_; conv => whnf)
      | (refine CALLQ.mk _ _ _ (leL_refl _) (hRun ..) rfl ?_; conv => whnf)
    split
    rotate_left
    · rename_i h
      have h' : decide (n ≤ 1073741824) = false := h
      simp at h' <;> omega
    conv => whnf
    repeat first
      | (refine DRAW.seek ?_; repeat (first | refine TRYD.take ?_ | refine TRYD.next ?_); conv => whnf)
      | (refine HOLD.mk (by first | exact trivial | exact ⟨⟨rfl, rfl⟩, trivial⟩ | exact ⟨⟨rfl, rfl⟩, ⟨rfl, rfl⟩, trivial⟩) ?_; (conv => whnf))
      | (refine CALL0.cutBy lvRuns _ _ _ _ _ (leL_refl _) (hRamp ..) rfl ?_; conv => whnf)
      | (refine CALL0.by (hRamp ..) rfl ?_; conv => whnf)
      | (refine CALLQ.mk _ _ _ (leL_refl _) (hRamp ..) rfl ?_; conv => whnf)
      | (refine CALL0.cutBy lvRuns _ _ _ _ _ (leL_refl _) (hM ..) rfl ?_; conv => whnf)
      | (refine CALL0.by (hM ..) rfl ?_; conv => whnf)
      | (refine CALLQ.mk _ _ _ (leL_refl _) (hM ..) rfl ?_; conv => whnf)
    repeat first
      | (refine DRAW.seek ?_; repeat (first | refine TRYD.take ?_ | refine TRYD.next ?_); conv => whnf)
      | (refine HOLD.mk (by first | exact trivial | exact ⟨⟨rfl, rfl⟩, trivial⟩ | exact ⟨⟨rfl, rfl⟩, ⟨rfl, rfl⟩, trivial⟩) ?_; (conv => whnf))
      | (refine CALL0.cutBy lvRuns _ _ _ _ _ (leL_refl _) (hW ..) rfl ?_; conv => whnf)
      | (refine CALL0.by (hW ..) rfl ?_; conv => whnf)
      | (refine CALLQ.mk _ _ _ (leL_refl _) (hW ..) rfl ?_; conv => whnf)
      | (refine CALL0.cutBy lvRuns _ _ _ _ _ (leL_refl _) (hCR ..) rfl ?_; conv => whnf)
      | (refine CALL0.by (hCR ..) rfl ?_; conv => whnf)
      | (refine CALLQ.mk _ _ _ (leL_refl _) (hCR ..) rfl ?_; conv => whnf)
      | (refine CALL0.cutBy lvRuns _ _ _ _ _ (leL_refl _) (hrR ..) rfl ?_; conv => whnf)
      | (refine CALL0.by (hrR ..) rfl ?_; conv => whnf)
      | (refine CALLQ.mk _ _ _ (leL_refl _) (hrR ..) rfl ?_; conv => whnf)
    repeat first
      | (refine DRAW.seek ?_; repeat (first | refine TRYD.take ?_ | refine TRYD.next ?_); conv => whnf)
      | (refine HOLD.mk (by first | exact trivial | exact ⟨⟨rfl, rfl⟩, trivial⟩ | exact ⟨⟨rfl, rfl⟩, ⟨rfl, rfl⟩, trivial⟩) ?_; (conv => whnf))
      | (refine CALL0.cutBy lvRuns _ _ _ _ _ (leL_refl _) (hRR ..) rfl ?_; conv => whnf)
      | (refine CALL0.by (hRR ..) rfl ?_; conv => whnf)
      | (refine CALLQ.mk _ _ _ (leL_refl _) (hRR ..) rfl ?_; conv => whnf)
    repeat first
      | (refine DRAW.seek ?_; repeat (first | refine TRYD.take ?_ | refine TRYD.next ?_); conv => whnf)
      | (refine HOLD.mk (by first | exact trivial | exact ⟨⟨rfl, rfl⟩, trivial⟩ | exact ⟨⟨rfl, rfl⟩, ⟨rfl, rfl⟩, trivial⟩) ?_; (conv => whnf))
      | (refine CALL0.cutBy lvRuns _ _ _ _ _ (leL_refl _) (hOw ..) rfl ?_; conv => whnf)
      | (refine CALL0.by (hOw ..) rfl ?_; conv => whnf)
      | (refine CALLQ.mk _ _ _ (leL_refl _) (hOw ..) rfl ?_; conv => whnf)
      | (refine CALL0.cutBy lvRuns _ _ _ _ _ (leL_refl _) (hSA ..) rfl ?_; conv => whnf)
      | (refine CALL0.by (hSA ..) rfl ?_; conv => whnf)
      | (refine CALLQ.mk _ _ _ (leL_refl _) (hSA ..) rfl ?_; conv => whnf)
    split
    rotate_left
    · rename_i h
      exact Bool.noConfusion ((eR).symm.trans h)
    rename_i hN
    clear hN
    conv => whnf
    repeat first
      | (refine DRAW.seek ?_; repeat (first | refine TRYD.take ?_ | refine TRYD.next ?_); conv => whnf)
      | (refine HOLD.mk (by first | exact trivial | exact ⟨⟨rfl, rfl⟩, trivial⟩ | exact ⟨⟨rfl, rfl⟩, ⟨rfl, rfl⟩, trivial⟩) ?_; (conv => whnf))
      | (refine CALL0.cutBy lvRuns _ _ _ _ _ (leL_refl _) (hA ..) rfl ?_; conv => whnf)
      | (refine CALL0.by (hA ..) rfl ?_; conv => whnf)
      | (refine CALLQ.mk _ _ _ (leL_refl _) (hA ..) rfl ?_; conv => whnf)
    exact ⟨rfl, rfl⟩

theorem c_ControlRuns (up : List Ces) (hk : gl g_control_kinds = kindsI) (hg : gl g_internal_strconv_uint64pow10 = powI) (m : Mc) (n : Nat) (hn : n ≤ 9223372036854775807) (w : Nat → Int) (M : Int) :
    Cs gl n_nacellelaw05_ControlRuns up [m.iv, .lst none 1 n fun i => [.int .i64 (w i)], .int .i64 M] (.bool true) up := by
  cases hs : m.smallB with
  | false => exact runs_no up hk hg m n w M (.inl hs)
  | true =>
  by_cases hq : decide ((n : Int) > 24) = false ∨ decide ((n : Int) > 24) = true ∧ ((n : Int) != 1025) = false
  rotate_left
  · refine runs_no up hk hg m n w M (.inr ?_)
    cases q24 : decide ((n : Int) > 24) with
    | false => exact absurd (.inl q24) hq
    | true =>
      refine ⟨rfl, ?_⟩
      cases q25 : ((n : Int) != 1025) with
      | true => rfl
      | false => exact absurd (.inr ⟨q24, q25⟩) hq
  have hn2 : n ≤ 1025 := by
    rcases hq with h | ⟨_, h⟩
    · have := of_decide_eq_false h; omega
    · have : (n : Int) = 1025 := by simpa using h
      omega
  have hRun := fun up => c_Run (gl := gl) up m n (by omega) w
  unfold runR at hRun
  by_cases he : m.err = 0
  rotate_left
  · have qE : (m.err != 0) = true := by simpa using he
    have e0 : repE0 m n = m.err := by unfold repE0; exact orL_ne qE
    rw [e0, qE, cond_true] at hRun
    exact runs_bad up hk hg m n hn2 w M hs hq m.err qE hRun (.inl rfl)
  have e1 : repE0 m n = bif decide ((n : Int) > 1024) then 5 else 0 := by
    unfold repE0
    rw [he]
    cases decide ((n : Int) > 1024) <;> rfl
  rw [e1] at hRun
  cases q : decide ((n : Int) > 1024) with
  | true =>
    rw [q] at hRun
    exact runs_bad up hk hg m n hn2 w M hs hq 5 rfl hRun (.inr ⟨he, by unfold windE; rw [q]; rfl⟩)
  | false =>
  have hw1 : windE m n w = winds0 m n w := by unfold windE winds0; rw [q]; rfl
  rw [q, cond_false, show ((0 : Int) != 0) = false from rfl, cond_false] at hRun
  cases q2 : (winds0 m n w != 0) with
  | true =>
    rw [q2, cond_true] at hRun
    exact runs_bad up hk hg m n hn2 w M hs hq _ q2 hRun (.inr ⟨he, hw1⟩)
  | false =>
    rw [q2, cond_false] at hRun
    have hz : winds0 m n w = 0 := by simpa using q2
    have hwd : ∀ i, i < n → 0 ≤ w i ∧ w i ≤ m.wind := fun i hi => by
      have h := hz
      unfold winds0 at h
      rw [firstS_zero] at h
      exact withinS_zero.1 (h i (by omega) (by omega))
    have hn3 := of_decide_eq_false q
    rcases hq with q24 | ⟨_, h⟩
    · exact runs_ok up hk hg m n (by omega) w M hs q24 he (hw1.trans hz) hwd hRun
    · have : (n : Int) = 1025 := by simpa using h
      omega
end Go.Proofs.YtkdlegfakefjgaaGreatDoor.Ix
