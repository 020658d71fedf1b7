/- YtkdlegfakefjgaaGreatDoorM11 -/
import Derived.Test.YtkdlegfakefjgaaGreatDoorM10
namespace Go.Proofs.YtkdlegfakefjgaaGreatDoor.Ix
open Go.Proofs
set_option maxRecDepth 100000
set_option linter.unusedVariables false
set_option linter.unusedSimpArgs false
variable {gl : Nat → IV}
theorem texts_no (up : List Ces) (hk : gl g_control_kinds = kindsI) (hg : gl g_internal_strconv_uint64pow10 = powI) (n : Nat) (hn : n ≤ 9223372036854775807) (l : Nat → Ac) (s : ByteArray) (hs : shortA n l 24 = false ∨ decide ((s.size : Int) > 600) = true) :
    Cs gl n_nacellelaw05_ControlTexts up [.lst none 5 n fun i => (l i).cs, .str s] (.bool true) up := by
  refine mk h_nacellelaw05_ControlTexts rfl rfl ?_
  have hA := fun up => c_awake (gl := gl) up hk hg
  have hSh := fun up => c_rShort (gl := gl) up n hn l 24
  cases qs : shortA n l 24 with
  | false =>
    rw [qs] at hSh
    conv => whnf
    repeat first
      | (refine DRAW.seek ?_; repeat (first | refine TRYD.take ?_ | refine TRYD.next ?_); conv => whnf)
      | (refine HOLD.mk (by first | exact trivial | exact ⟨⟨rfl, rfl⟩, trivial⟩ | exact ⟨⟨rfl, rfl⟩, ⟨rfl, rfl⟩, trivial⟩) ?_; (conv => whnf))
      | (refine CALL0.by (hSh ..) rfl ?_; conv => whnf)
      | (refine CALLQ.mk _ _ _ (leL_refl _) (hSh ..) rfl ?_; conv => whnf)
      | (refine CALL0.by (hA ..) rfl ?_; conv => whnf)
      | (refine CALLQ.mk _ _ _ (leL_refl _) (hA ..) rfl ?_; conv => whnf)
    exact ⟨rfl, rfl⟩
  | true =>
    rw [qs] at hSh
    have q := hs.resolve_left (by rw [qs]; nofun)
    conv => whnf
    repeat first
      | (refine DRAW.seek ?_; repeat (first | refine TRYD.take ?_ | refine TRYD.next ?_); conv => whnf)
      | (refine HOLD.mk (by first | exact trivial | exact ⟨⟨rfl, rfl⟩, trivial⟩ | exact ⟨⟨rfl, rfl⟩, ⟨rfl, rfl⟩, trivial⟩) ?_; (conv => whnf))
      | (refine CALL0.by (hSh ..) rfl ?_; conv => whnf)
      | (refine CALLQ.mk _ _ _ (leL_refl _) (hSh ..) rfl ?_; conv => whnf)
    split
    rotate_left
    · rename_i h
      exact Bool.noConfusion ((q).symm.trans h)
    rename_i hN
    clear hN
    conv => whnf
    repeat first
      | (refine DRAW.seek ?_; repeat (first | refine TRYD.take ?_ | refine TRYD.next ?_); conv => whnf)
      | (refine HOLD.mk (by first | exact trivial | exact ⟨⟨rfl, rfl⟩, trivial⟩ | exact ⟨⟨rfl, rfl⟩, ⟨rfl, rfl⟩, trivial⟩) ?_; (conv => whnf))
      | (refine CALL0.by (hA ..) rfl ?_; conv => whnf)
      | (refine CALLQ.mk _ _ _ (leL_refl _) (hA ..) rfl ?_; conv => whnf)
    exact ⟨rfl, rfl⟩
theorem t_ownNil (up : List Ces) : Cs gl n_nacellelaw05_own up [.nilS] (.lst (some 15) 5 0 fun i => ac0.cs) up :=
  Comp.le (args' := [.lst none 5 0 fun i => ac0.cs]) ⟨rfl, trivial⟩ (c_own up 0 (by decide) fun _ => ac0)
theorem t_sameNil (up : List Ces) : Cs gl n_nacelleref05_SameActs up [.lst none 5 0 fun i => ac0.cs, .nilS] (.bool true) up :=
  Comp.le (args' := [.lst none 5 0 fun i => ac0.cs, .lst none 5 0 fun i => ac0.cs]) ⟨leV_refl _, rfl, trivial⟩ (c_rSameActs up 0 (by decide) fun _ => ac0)
def lvTexts : List (Nat × List Nat) := [(16, [0, 1, 4, 5, 6, 7, 8, 9, 10, 11, 16]), (23, [0, 1, 4, 5, 6, 7, 8, 9, 10, 11, 23]), (26, [0, 1, 4, 5, 6, 7, 8, 9, 10, 11, 26]), (27, [0, 1, 4, 5, 6, 7, 8, 9, 10, 11, 27]), (32, [0, 1, 4, 5, 6, 7, 8, 9, 10, 11, 32]), (37, [0, 1, 4, 5, 6, 7, 8, 9, 10, 11, 37]), (41, [1, 4, 5, 6, 7, 8, 9, 10, 11, 41]), (44, [4, 5, 6, 7, 8, 9, 10, 11, 44]), (58, [4, 8, 9, 12, 13, 14, 56, 58]), (60, [4, 8, 9, 13, 14, 56, 60]), (73, [4, 72, 73])]
set_option maxHeartbeats 16000000 in
theorem texts_go (up : List Ces) (hk : gl g_control_kinds = kindsI) (hg : gl g_internal_strconv_uint64pow10 = powI) (n : Nat) (hn : n ≤ 10000000) (l : Nat → Ac) (s : ByteArray) (hs : shortA n l 24 = true) (q6 : decide ((s.size : Int) > 600) = false)
    (T : ByteArray) (E1 : Int) (hPr : ∀ up, Cs gl n_control_Print up [.lst none 5 n fun i => (l i).cs] (.tup [.str T, .int .i64 E1]) up) (hCA : ∀ up, Cs gl n_nacelleref05_CheckActs up [.lst none 5 n fun i => (l i).cs] (.int .i64 E1) up)
    (hT : (E1 == 0) = false ∧ T = ByteArray.empty ∨ (E1 == 0) = true ∧ ∀ up, Cs gl n_nacelleref05_Print up [.lst none 5 n fun i => (l i).cs] (.str T) up)
    (A B C : IV) (I E2 : Int) (hPa : ∀ up, Cs gl n_control_Parse up [.str s] (.tup [A, .int .i64 I, .int .i64 E2]) up) (hRP : ∀ up, Cs gl n_nacelleref05_Parse up [.str s] (.tup [B, .int .i64 I, .int .i64 E2]) up)
    (hAB : A = .nilS ∧ B = .nilS ∨ ∃ (m : Nat) (F : Nat → Ac), m ≤ 10000000 ∧ A = .lst (some 39) 5 m (fun k => (F k).cs) ∧ B = .lst (some 116) 5 m fun k => (F k).cs) :
    Cs gl n_nacellelaw05_ControlTexts up [.lst none 5 n fun i => (l i).cs, .str s] (.bool true) up := by
  have hA := fun up => c_awake (gl := gl) up hk hg
  have hSh := fun up => c_rShort (gl := gl) up n (by omega) l 24
  rw [hs] at hSh
  have hAc := fun up => c_acts (gl := gl) up n hn l
  have e1 : (E1 == E1) = true := beq_self_eq_true E1
  have e2 : (E2 == E2) = true := beq_self_eq_true E2
  have eI : (I == I) = true := beq_self_eq_true I
  rcases hT with ⟨z1, hT⟩ | ⟨z1, hTP⟩
  · have eT : eqS T ByteArray.empty = true := eqS_iff.2 hT
    clear hT
    rcases hAB with ⟨rfl, rfl⟩ | ⟨m, F, hm, rfl, rfl⟩
    · have hOw := fun up => t_ownNil (gl := gl) up
      have hSm := fun up => t_sameNil (gl := gl) up
      refine mk h_nacellelaw05_ControlTexts rfl rfl ?_
      conv => whnf
      repeat first
        | (refine DRAW.seek ?_; repeat (first | refine TRYD.take ?_ | refine TRYD.next ?_); conv => whnf)
        | (refine HOLD.mk (by first | exact trivial | exact ⟨⟨rfl, rfl⟩, trivial⟩ | exact ⟨⟨rfl, rfl⟩, ⟨rfl, rfl⟩, trivial⟩) ?_; (conv => whnf))
        | (refine CALL0.cutBy lvTexts _ _ _ _ _ (leL_refl _) (hSh ..) rfl ?_; conv => whnf)
        | (refine CALL0.by (hSh ..) rfl ?_; conv => whnf)
        | (refine CALLQ.mk _ _ _ (leL_refl _) (hSh ..) rfl ?_; conv => whnf)
      split
      · rename_i h
        exact Bool.noConfusion ((q6).symm.trans h)
      rename_i hN
      clear hN
      conv => whnf
      repeat first
        | (refine DRAW.seek ?_; repeat (first | refine TRYD.take ?_ | refine TRYD.next ?_); conv => whnf)
        | (refine HOLD.mk (by first | exact trivial | exact ⟨⟨rfl, rfl⟩, trivial⟩ | exact ⟨⟨rfl, rfl⟩, ⟨rfl, rfl⟩, trivial⟩) ?_; (conv => whnf))
        | (refine CALL0.cutBy lvTexts _ _ _ _ _ (leL_refl _) (hAc ..) rfl ?_; conv => whnf)
        | (refine CALL0.by (hAc ..) rfl ?_; conv => whnf)
        | (refine CALLQ.mk _ _ _ (leL_refl _) (hAc ..) rfl ?_; conv => whnf)
        | (refine CALL0.cutBy lvTexts _ _ _ _ _ (leL_refl _) (hPr ..) rfl ?_; conv => whnf)
        | (refine CALL0.by (hPr ..) rfl ?_; conv => whnf)
        | (refine CALLQ.mk _ _ _ (leL_refl _) (hPr ..) rfl ?_; conv => whnf)
        | (refine CALL0.cutBy lvTexts _ _ _ _ _ (leL_refl _) (hPa ..) rfl ?_; conv => whnf)
        | (refine CALL0.by (hPa ..) rfl ?_; conv => whnf)
        | (refine CALLQ.mk _ _ _ (leL_refl _) (hPa ..) rfl ?_; conv => whnf)
        | (refine CALL0.cutBy lvTexts _ _ _ _ _ (leL_refl _) (hCA ..) rfl ?_; conv => whnf)
        | (refine CALL0.by (hCA ..) rfl ?_; conv => whnf)
        | (refine CALLQ.mk _ _ _ (leL_refl _) (hCA ..) rfl ?_; conv => whnf)
      split
      · rename_i h
        exact Bool.noConfusion ((z1).symm.trans h)
      rename_i hN
      clear hN
      conv => whnf
      repeat first
        | (refine DRAW.seek ?_; repeat (first | refine TRYD.take ?_ | refine TRYD.next ?_); conv => whnf)
        | (refine HOLD.mk (by first | exact trivial | exact ⟨⟨rfl, rfl⟩, trivial⟩ | exact ⟨⟨rfl, rfl⟩, ⟨rfl, rfl⟩, trivial⟩) ?_; (conv => whnf))
        | (refine CALL0.cutBy lvTexts _ _ _ _ _ (leL_refl _) (hRP ..) rfl ?_; conv => whnf)
        | (refine CALL0.by (hRP ..) rfl ?_; conv => whnf)
        | (refine CALLQ.mk _ _ _ (leL_refl _) (hRP ..) rfl ?_; conv => whnf)
      split
      rotate_left
      · rename_i h
        exact Bool.noConfusion ((eT).symm.trans h)
      rename_i hN
      clear hN
      conv => whnf
      split
      rotate_left
      · rename_i h
        exact Bool.noConfusion ((e1).symm.trans h)
      rename_i hN
      clear hN
      conv => whnf
      repeat first
        | (refine DRAW.seek ?_; repeat (first | refine TRYD.take ?_ | refine TRYD.next ?_); conv => whnf)
        | (refine HOLD.mk (by first | exact trivial | exact ⟨⟨rfl, rfl⟩, trivial⟩ | exact ⟨⟨rfl, rfl⟩, ⟨rfl, rfl⟩, trivial⟩) ?_; (conv => whnf))
        | (refine CALL0.cutBy lvTexts _ _ _ _ _ (leL_refl _) (hOw ..) rfl ?_; conv => whnf)
        | (refine CALL0.by (hOw ..) rfl ?_; conv => whnf)
        | (refine CALLQ.mk _ _ _ (leL_refl _) (hOw ..) rfl ?_; conv => whnf)
      repeat first
        | (refine DRAW.seek ?_; repeat (first | refine TRYD.take ?_ | refine TRYD.next ?_); conv => whnf)
        | (refine HOLD.mk (by first | exact trivial | exact ⟨⟨rfl, rfl⟩, trivial⟩ | exact ⟨⟨rfl, rfl⟩, ⟨rfl, rfl⟩, trivial⟩) ?_; (conv => whnf))
        | (refine CALL0.cutBy lvTexts _ _ _ _ _ (leL_refl _) (hSm ..) rfl ?_; conv => whnf)
        | (refine CALL0.by (hSm ..) rfl ?_; conv => whnf)
        | (refine CALLQ.mk _ _ _ (leL_refl _) (hSm ..) rfl ?_; conv => whnf)
      split
      rotate_left
      · rename_i h
        exact Bool.noConfusion ((eI).symm.trans h)
      rename_i hN
      clear hN
      conv => whnf
      split
      rotate_left
      · rename_i h
        exact Bool.noConfusion ((e2).symm.trans h)
      rename_i hN
      clear hN
      conv => whnf
      repeat first
        | (refine DRAW.seek ?_; repeat (first | refine TRYD.take ?_ | refine TRYD.next ?_); conv => whnf)
        | (refine HOLD.mk (by first | exact trivial | exact ⟨⟨rfl, rfl⟩, trivial⟩ | exact ⟨⟨rfl, rfl⟩, ⟨rfl, rfl⟩, trivial⟩) ?_; (conv => whnf))
        | (refine CALL0.cutBy lvTexts _ _ _ _ _ (leL_refl _) (hA ..) rfl ?_; conv => whnf)
        | (refine CALL0.by (hA ..) rfl ?_; conv => whnf)
        | (refine CALLQ.mk _ _ _ (leL_refl _) (hA ..) rfl ?_; conv => whnf)
      exact ⟨rfl, rfl⟩
    · have hOw := fun up => c_own (gl := gl) up m hm F
      have hSm := fun up => c_rSameActs (gl := gl) up m hm F
      refine mk h_nacellelaw05_ControlTexts rfl rfl ?_
      conv => whnf
      repeat first
        | (refine DRAW.seek ?_; repeat (first | refine TRYD.take ?_ | refine TRYD.next ?_); conv => whnf)
        | (refine HOLD.mk (by first | exact trivial | exact ⟨⟨rfl, rfl⟩, trivial⟩ | exact ⟨⟨rfl, rfl⟩, ⟨rfl, rfl⟩, trivial⟩) ?_; (conv => whnf))
        | (refine CALL0.cutBy lvTexts _ _ _ _ _ (leL_refl _) (hSh ..) rfl ?_; conv => whnf)
        | (refine CALL0.by (hSh ..) rfl ?_; conv => whnf)
        | (refine CALLQ.mk _ _ _ (leL_refl _) (hSh ..) rfl ?_; conv => whnf)
      split
      · rename_i h
        exact Bool.noConfusion ((q6).symm.trans h)
      rename_i hN
      clear hN
      conv => whnf
      repeat first
        | (refine DRAW.seek ?_; repeat (first | refine TRYD.take ?_ | refine TRYD.next ?_); conv => whnf)
        | (refine HOLD.mk (by first | exact trivial | exact ⟨⟨rfl, rfl⟩, trivial⟩ | exact ⟨⟨rfl, rfl⟩, ⟨rfl, rfl⟩, trivial⟩) ?_; (conv => whnf))
        | (refine CALL0.cutBy lvTexts _ _ _ _ _ (leL_refl _) (hAc ..) rfl ?_; conv => whnf)
        | (refine CALL0.by (hAc ..) rfl ?_; conv => whnf)
        | (refine CALLQ.mk _ _ _ (leL_refl _) (hAc ..) rfl ?_; conv => whnf)
        | (refine CALL0.cutBy lvTexts _ _ _ _ _ (leL_refl _) (hPr ..) rfl ?_; conv => whnf)
        | (refine CALL0.by (hPr ..) rfl ?_; conv => whnf)
        | (refine CALLQ.mk _ _ _ (leL_refl _) (hPr ..) rfl ?_; conv => whnf)
        | (refine CALL0.cutBy lvTexts _ _ _ _ _ (leL_refl _) (hPa ..) rfl ?_; conv => whnf)
        | (refine CALL0.by (hPa ..) rfl ?_; conv => whnf)
        | (refine CALLQ.mk _ _ _ (leL_refl _) (hPa ..) rfl ?_; conv => whnf)
        | (refine CALL0.cutBy lvTexts _ _ _ _ _ (leL_refl _) (hCA ..) rfl ?_; conv => whnf)
        | (refine CALL0.by (hCA ..) rfl ?_; conv => whnf)
        | (refine CALLQ.mk _ _ _ (leL_refl _) (hCA ..) rfl ?_; conv => whnf)
      split
      · rename_i h
        exact Bool.noConfusion ((z1).symm.trans h)
      rename_i hN
      clear hN
      conv => whnf
      repeat first
        | (refine DRAW.seek ?_; repeat (first | refine TRYD.take ?_ | refine TRYD.next ?_); conv => whnf)
        | (refine HOLD.mk (by first | exact trivial | exact ⟨⟨rfl, rfl⟩, trivial⟩ | exact ⟨⟨rfl, rfl⟩, ⟨rfl, rfl⟩, trivial⟩) ?_; (conv => whnf))
        | (refine CALL0.cutBy lvTexts _ _ _ _ _ (leL_refl _) (hRP ..) rfl ?_; conv => whnf)
        | (refine CALL0.by (hRP ..) rfl ?_; conv => whnf)
        | (refine CALLQ.mk _ _ _ (leL_refl _) (hRP ..) rfl ?_; conv => whnf)
      split
      rotate_left
      · rename_i h
        exact Bool.noConfusion ((eT).symm.trans h)
      rename_i hN
      clear hN
      conv => whnf
      split
      rotate_left
      · rename_i h
        exact Bool.noConfusion ((e1).symm.trans h)
      rename_i hN
      clear hN
      conv => whnf
      repeat first
        | (refine DRAW.seek ?_; repeat (first | refine TRYD.take ?_ | refine TRYD.next ?_); conv => whnf)
        | (refine HOLD.mk (by first | exact trivial | exact ⟨⟨rfl, rfl⟩, trivial⟩ | exact ⟨⟨rfl, rfl⟩, ⟨rfl, rfl⟩, trivial⟩) ?_; (conv => whnf))
        | (refine CALL0.cutBy lvTexts _ _ _ _ _ (leL_refl _) (hOw ..) rfl ?_; conv => whnf)
        | (refine CALL0.by (hOw ..) rfl ?_; conv => whnf)
        | (refine CALLQ.mk _ _ _ (leL_refl _) (hOw ..) rfl ?_; conv => whnf)
      repeat first
        | (refine DRAW.seek ?_; repeat (first | refine TRYD.take ?_ | refine TRYD.next ?_); conv => whnf)
        | (refine HOLD.mk (by first | exact trivial | exact ⟨⟨rfl, rfl⟩, trivial⟩ | exact ⟨⟨rfl, rfl⟩, ⟨rfl, rfl⟩, trivial⟩) ?_; (conv => whnf))
        | (refine CALL0.cutBy lvTexts _ _ _ _ _ (leL_refl _) (hSm ..) rfl ?_; conv => whnf)
        | (refine CALL0.by (hSm ..) rfl ?_; conv => whnf)
        | (refine CALLQ.mk _ _ _ (leL_refl _) (hSm ..) rfl ?_; conv => whnf)
      split
      rotate_left
      · rename_i h
        exact Bool.noConfusion ((eI).symm.trans h)
      rename_i hN
      clear hN
      conv => whnf
      split
      rotate_left
      · rename_i h
        exact Bool.noConfusion ((e2).symm.trans h)
      rename_i hN
      clear hN
      conv => whnf
      repeat first
        | (refine DRAW.seek ?_; repeat (first | refine TRYD.take ?_ | refine TRYD.next ?_); conv => whnf)
        | (refine HOLD.mk (by first | exact trivial | exact ⟨⟨rfl, rfl⟩, trivial⟩ | exact ⟨⟨rfl, rfl⟩, ⟨rfl, rfl⟩, trivial⟩) ?_; (conv => whnf))
        | (refine CALL0.cutBy lvTexts _ _ _ _ _ (leL_refl _) (hA ..) rfl ?_; conv => whnf)
        | (refine CALL0.by (hA ..) rfl ?_; conv => whnf)
        | (refine CALLQ.mk _ _ _ (leL_refl _) (hA ..) rfl ?_; conv => whnf)
      exact ⟨rfl, rfl⟩
  · obtain ⟨T', hT'⟩ : ∃ T', T' = T := ⟨_, rfl⟩
    have eT : eqS T T' = true := eqS_iff.2 hT'.symm
    rw [← hT'] at hTP
    clear hT'
    rcases hAB with ⟨rfl, rfl⟩ | ⟨m, F, hm, rfl, rfl⟩
    · have hOw := fun up => t_ownNil (gl := gl) up
      have hSm := fun up => t_sameNil (gl := gl) up
      refine mk h_nacellelaw05_ControlTexts rfl rfl ?_
      conv => whnf
      repeat first
        | (refine DRAW.seek ?_; repeat (first | refine TRYD.take ?_ | refine TRYD.next ?_); conv => whnf)
        | (refine HOLD.mk (by first | exact trivial | exact ⟨⟨rfl, rfl⟩, trivial⟩ | exact ⟨⟨rfl, rfl⟩, ⟨rfl, rfl⟩, trivial⟩) ?_; (conv => whnf))
        | (refine CALL0.cutBy lvTexts _ _ _ _ _ (leL_refl _) (hSh ..) rfl ?_; conv => whnf)
        | (refine CALL0.by (hSh ..) rfl ?_; conv => whnf)
        | (refine CALLQ.mk _ _ _ (leL_refl _) (hSh ..) rfl ?_; conv => whnf)
      split
      · rename_i h
        exact Bool.noConfusion ((q6).symm.trans h)
      rename_i hN
      clear hN
      conv => whnf
      repeat first
        | (refine DRAW.seek ?_; repeat (first | refine TRYD.take ?_ | refine TRYD.next ?_); conv => whnf)
        | (refine HOLD.mk (by first | exact trivial | exact ⟨⟨rfl, rfl⟩, trivial⟩ | exact ⟨⟨rfl, rfl⟩, ⟨rfl, rfl⟩, trivial⟩) ?_; (conv => whnf))
        | (refine CALL0.cutBy lvTexts _ _ _ _ _ (leL_refl _) (hAc ..) rfl ?_; conv => whnf)
        | (refine CALL0.by (hAc ..) rfl ?_; conv => whnf)
        | (refine CALLQ.mk _ _ _ (leL_refl _) (hAc ..) rfl ?_; conv => whnf)
        | (refine CALL0.cutBy lvTexts _ _ _ _ _ (leL_refl _) (hPr ..) rfl ?_; conv => whnf)
        | (refine CALL0.by (hPr ..) rfl ?_; conv => whnf)
        | (refine CALLQ.mk _ _ _ (leL_refl _) (hPr ..) rfl ?_; conv => whnf)
        | (refine CALL0.cutBy lvTexts _ _ _ _ _ (leL_refl _) (hPa ..) rfl ?_; conv => whnf)
        | (refine CALL0.by (hPa ..) rfl ?_; conv => whnf)
        | (refine CALLQ.mk _ _ _ (leL_refl _) (hPa ..) rfl ?_; conv => whnf)
        | (refine CALL0.cutBy lvTexts _ _ _ _ _ (leL_refl _) (hCA ..) rfl ?_; conv => whnf)
        | (refine CALL0.by (hCA ..) rfl ?_; conv => whnf)
        | (refine CALLQ.mk _ _ _ (leL_refl _) (hCA ..) rfl ?_; conv => whnf)
      split
      rotate_left
      · rename_i h
        exact Bool.noConfusion ((z1).symm.trans h)
      rename_i hN
      clear hN
      conv => whnf
      repeat first
        | (refine DRAW.seek ?_; repeat (first | refine TRYD.take ?_ | refine TRYD.next ?_); conv => whnf)
        | (refine HOLD.mk (by first | exact trivial | exact ⟨⟨rfl, rfl⟩, trivial⟩ | exact ⟨⟨rfl, rfl⟩, ⟨rfl, rfl⟩, trivial⟩) ?_; (conv => whnf))
        | (refine CALL0.cutBy lvTexts _ _ _ _ _ (leL_refl _) (hTP ..) rfl ?_; conv => whnf)
        | (refine CALL0.by (hTP ..) rfl ?_; conv => whnf)
        | (refine CALLQ.mk _ _ _ (leL_refl _) (hTP ..) rfl ?_; conv => whnf)
        | (refine CALL0.cutBy lvTexts _ _ _ _ _ (leL_refl _) (hRP ..) rfl ?_; conv => whnf)
        | (refine CALL0.by (hRP ..) rfl ?_; conv => whnf)
        | (refine CALLQ.mk _ _ _ (leL_refl _) (hRP ..) rfl ?_; conv => whnf)
      split
      rotate_left
      · rename_i h
        exact Bool.noConfusion ((eT).symm.trans h)
      rename_i hN
      clear hN
      conv => whnf
      split
      rotate_left
      · rename_i h
        exact Bool.noConfusion ((e1).symm.trans h)
      rename_i hN
      clear hN
      conv => whnf
      repeat first
        | (refine DRAW.seek ?_; repeat (first | refine TRYD.take ?_ | refine TRYD.next ?_); conv => whnf)
        | (refine HOLD.mk (by first | exact trivial | exact ⟨⟨rfl, rfl⟩, trivial⟩ | exact ⟨⟨rfl, rfl⟩, ⟨rfl, rfl⟩, trivial⟩) ?_; (conv => whnf))
        | (refine CALL0.cutBy lvTexts _ _ _ _ _ (leL_refl _) (hOw ..) rfl ?_; conv => whnf)
        | (refine CALL0.by (hOw ..) rfl ?_; conv => whnf)
        | (refine CALLQ.mk _ _ _ (leL_refl _) (hOw ..) rfl ?_; conv => whnf)
      repeat first
        | (refine DRAW.seek ?_; repeat (first | refine TRYD.take ?_ | refine TRYD.next ?_); conv => whnf)
        | (refine HOLD.mk (by first | exact trivial | exact ⟨⟨rfl, rfl⟩, trivial⟩ | exact ⟨⟨rfl, rfl⟩, ⟨rfl, rfl⟩, trivial⟩) ?_; (conv => whnf))
        | (refine CALL0.cutBy lvTexts _ _ _ _ _ (leL_refl _) (hSm ..) rfl ?_; conv => whnf)
        | (refine CALL0.by (hSm ..) rfl ?_; conv => whnf)
        | (refine CALLQ.mk _ _ _ (leL_refl _) (hSm ..) rfl ?_; conv => whnf)
      split
      rotate_left
      · rename_i h
        exact Bool.noConfusion ((eI).symm.trans h)
      rename_i hN
      clear hN
      conv => whnf
      split
      rotate_left
      · rename_i h
        exact Bool.noConfusion ((e2).symm.trans h)
      rename_i hN
      clear hN
      conv => whnf
      repeat first
        | (refine DRAW.seek ?_; repeat (first | refine TRYD.take ?_ | refine TRYD.next ?_); conv => whnf)
        | (refine HOLD.mk (by first | exact trivial | exact ⟨⟨rfl, rfl⟩, trivial⟩ | exact ⟨⟨rfl, rfl⟩, ⟨rfl, rfl⟩, trivial⟩) ?_; (conv => whnf))
        | (refine CALL0.cutBy lvTexts _ _ _ _ _ (leL_refl _) (hA ..) rfl ?_; conv => whnf)
        | (refine CALL0.by (hA ..) rfl ?_; conv => whnf)
        | (refine CALLQ.mk _ _ _ (leL_refl _) (hA ..) rfl ?_; conv => whnf)
      exact ⟨rfl, rfl⟩
    · have hOw := fun up => c_own (gl := gl) up m hm F
      have hSm := fun up => c_rSameActs (gl := gl) up m hm F
      refine mk h_nacellelaw05_ControlTexts rfl rfl ?_
      conv => whnf
      repeat first
        | (refine DRAW.seek ?_; repeat (first | refine TRYD.take ?_ | refine TRYD.next ?_); conv => whnf)
        | (refine HOLD.mk (by first | exact trivial | exact ⟨⟨rfl, rfl⟩, trivial⟩ | exact ⟨⟨rfl, rfl⟩, ⟨rfl, rfl⟩, trivial⟩) ?_; (conv => whnf))
        | (refine CALL0.cutBy lvTexts _ _ _ _ _ (leL_refl _) (hSh ..) rfl ?_; conv => whnf)
        | (refine CALL0.by (hSh ..) rfl ?_; conv => whnf)
        | (refine CALLQ.mk _ _ _ (leL_refl _) (hSh ..) rfl ?_; conv => whnf)
      split
      · rename_i h
        exact Bool.noConfusion ((q6).symm.trans h)
      rename_i hN
      clear hN
      conv => whnf
      repeat first
        | (refine DRAW.seek ?_; repeat (first | refine TRYD.take ?_ | refine TRYD.next ?_); conv => whnf)
        | (refine HOLD.mk (by first | exact trivial | exact ⟨⟨rfl, rfl⟩, trivial⟩ | exact ⟨⟨rfl, rfl⟩, ⟨rfl, rfl⟩, trivial⟩) ?_; (conv => whnf))
        | (refine CALL0.cutBy lvTexts _ _ _ _ _ (leL_refl _) (hAc ..) rfl ?_; conv => whnf)
        | (refine CALL0.by (hAc ..) rfl ?_; conv => whnf)
        | (refine CALLQ.mk _ _ _ (leL_refl _) (hAc ..) rfl ?_; conv => whnf)
        | (refine CALL0.cutBy lvTexts _ _ _ _ _ (leL_refl _) (hPr ..) rfl ?_; conv => whnf)
        | (refine CALL0.by (hPr ..) rfl ?_; conv => whnf)
        | (refine CALLQ.mk _ _ _ (leL_refl _) (hPr ..) rfl ?_; conv => whnf)
        | (refine CALL0.cutBy lvTexts _ _ _ _ _ (leL_refl _) (hPa ..) rfl ?_; conv => whnf)
        | (refine CALL0.by (hPa ..) rfl ?_; conv => whnf)
        | (refine CALLQ.mk _ _ _ (leL_refl _) (hPa ..) rfl ?_; conv => whnf)
        | (refine CALL0.cutBy lvTexts _ _ _ _ _ (leL_refl _) (hCA ..) rfl ?_; conv => whnf)
        | (refine CALL0.by (hCA ..) rfl ?_; conv => whnf)
        | (refine CALLQ.mk _ _ _ (leL_refl _) (hCA ..) rfl ?_; conv => whnf)
      split
      rotate_left
      · rename_i h
        exact Bool.noConfusion ((z1).symm.trans h)
      rename_i hN
      clear hN
      conv => whnf
      repeat first
        | (refine DRAW.seek ?_; repeat (first | refine TRYD.take ?_ | refine TRYD.next ?_); conv => whnf)
        | (refine HOLD.mk (by first | exact trivial | exact ⟨⟨rfl, rfl⟩, trivial⟩ | exact ⟨⟨rfl, rfl⟩, ⟨rfl, rfl⟩, trivial⟩) ?_; (conv => whnf))
        | (refine CALL0.cutBy lvTexts _ _ _ _ _ (leL_refl _) (hTP ..) rfl ?_; conv => whnf)
        | (refine CALL0.by (hTP ..) rfl ?_; conv => whnf)
        | (refine CALLQ.mk _ _ _ (leL_refl _) (hTP ..) rfl ?_; conv => whnf)
        | (refine CALL0.cutBy lvTexts _ _ _ _ _ (leL_refl _) (hRP ..) rfl ?_; conv => whnf)
        | (refine CALL0.by (hRP ..) rfl ?_; conv => whnf)
        | (refine CALLQ.mk _ _ _ (leL_refl _) (hRP ..) rfl ?_; conv => whnf)
      split
      rotate_left
      · rename_i h
        exact Bool.noConfusion ((eT).symm.trans h)
      rename_i hN
      clear hN
      conv => whnf
      split
      rotate_left
      · rename_i h
        exact Bool.noConfusion ((e1).symm.trans h)
      rename_i hN
      clear hN
      conv => whnf
      repeat first
        | (refine DRAW.seek ?_; repeat (first | refine TRYD.take ?_ | refine TRYD.next ?_); conv => whnf)
        | (refine HOLD.mk (by first | exact trivial | exact ⟨⟨rfl, rfl⟩, trivial⟩ | exact ⟨⟨rfl, rfl⟩, ⟨rfl, rfl⟩, trivial⟩) ?_; (conv => whnf))
        | (refine CALL0.cutBy lvTexts _ _ _ _ _ (leL_refl _) (hOw ..) rfl ?_; conv => whnf)
        | (refine CALL0.by (hOw ..) rfl ?_; conv => whnf)
        | (refine CALLQ.mk _ _ _ (leL_refl _) (hOw ..) rfl ?_; conv => whnf)
      repeat first
        | (refine DRAW.seek ?_; repeat (first | refine TRYD.take ?_ | refine TRYD.next ?_); conv => whnf)
        | (refine HOLD.mk (by first | exact trivial | exact ⟨⟨rfl, rfl⟩, trivial⟩ | exact ⟨⟨rfl, rfl⟩, ⟨rfl, rfl⟩, trivial⟩) ?_; (conv => whnf))
        | (refine CALL0.cutBy lvTexts _ _ _ _ _ (leL_refl _) (hSm ..) rfl ?_; conv => whnf)
        | (refine CALL0.by (hSm ..) rfl ?_; conv => whnf)
        | (refine CALLQ.mk _ _ _ (leL_refl _) (hSm ..) rfl ?_; conv => whnf)
      split
      rotate_left
      · rename_i h
        exact Bool.noConfusion ((eI).symm.trans h)
      rename_i hN
      clear hN
      conv => whnf
      split
      rotate_left
      · rename_i h
        exact Bool.noConfusion ((e2).symm.trans h)
      rename_i hN
      clear hN
      conv => whnf
      repeat first
        | (refine DRAW.seek ?_; repeat (first | refine TRYD.take ?_ | refine TRYD.next ?_); conv => whnf)
        | (refine HOLD.mk (by first | exact trivial | exact ⟨⟨rfl, rfl⟩, trivial⟩ | exact ⟨⟨rfl, rfl⟩, ⟨rfl, rfl⟩, trivial⟩) ?_; (conv => whnf))
        | (refine CALL0.cutBy lvTexts _ _ _ _ _ (leL_refl _) (hA ..) rfl ?_; conv => whnf)
        | (refine CALL0.by (hA ..) rfl ?_; conv => whnf)
        | (refine CALLQ.mk _ _ _ (leL_refl _) (hA ..) rfl ?_; conv => whnf)
      exact ⟨rfl, rfl⟩
theorem c_ControlTexts (up : List Ces) (hk : gl g_control_kinds = kindsI) (hg : gl g_internal_strconv_uint64pow10 = powI) (n : Nat) (hn : n ≤ 9223372036854775807) (l : Nat → Ac) (s : ByteArray) :
    Cs gl n_nacellelaw05_ControlTexts up [.lst none 5 n fun i => (l i).cs, .str s] (.bool true) up := by
  cases hs : shortA n l 24 with
  | false => exact texts_no up hk hg n hn l s (.inl hs)
  | true =>
  cases q6 : decide ((s.size : Int) > 600) with
  | true => exact texts_no up hk hg n hn l s (.inr q6)
  | false =>
  have hn2 : n ≤ 10000000 := by rcases short_le hs with h | h <;> omega
  have hsz := of_decide_eq_false q6
  have hl : s.data.toList.length ≤ 1000000 := by rw [← Go.Lib.size_eq]; omega
  have hPr := fun up => c_Print (gl := gl) up hk hg n hn2 l
  have hCA := fun up => c_rCheckActs (gl := gl) up n hn2 l
  have hPa := fun up => c_Parse (gl := gl) up hk s.data.toList hl
  have hRP := fun up => c_rParse (gl := gl) up s.data.toList hl
  rw [bytesS_mk] at hPa hRP
  obtain ⟨P, hP⟩ : ∃ P, P = splitL 10 s.data.toList := ⟨_, rfl⟩
  have hPl : P.length ≤ 1000001 := by rw [hP, splitL_len]; have := List.count_le_length (a := (10 : UInt8)) (l := s.data.toList); omega
  have hNl : linesN P ≤ P.length := by unfold linesN; split <;> omega
  rw [← hP] at hPa hRP
  rw [parseT_eq] at hPa
  obtain ⟨A, B, I, E2, hA, hB, hAB⟩ : ∃ A B I E2, parseT 39 P = .tup [A, .int .i64 I, .int .i64 E2] ∧ parseT 116 P = .tup [B, .int .i64 I, .int .i64 E2] ∧
      (A = .nilS ∧ B = .nilS ∨ ∃ (m : Nat) (F : Nat → Ac), m ≤ 10000000 ∧ A = .lst (some 39) 5 m (fun k => (F k).cs) ∧ B = .lst (some 116) 5 m fun k => (F k).cs) := by
    unfold parseT
    simp only
    cases decide (fb (lineG P) (linesN P) 0 < linesN P) with
    | true => exact ⟨_, _, _, _, rfl, rfl, .inl ⟨rfl, rfl⟩⟩
    | false =>
      rw [cond_false, cond_false]
      cases (actsE (linesN P) (fun k => (lineA P k).1) != 0) with
      | true => exact ⟨_, _, _, _, rfl, rfl, .inl ⟨rfl, rfl⟩⟩
      | false => exact ⟨_, _, _, _, rfl, rfl, .inr ⟨linesN P, fun k => (lineA P k).1, by omega, rfl, rfl⟩⟩
  rw [hA] at hPa
  rw [hB] at hRP
  by_cases h0 : actsE n l = 0
  · have hRPr := fun up => c_rPrintActs (gl := gl) up n l h0
    rw [h0] at hPr hCA
    exact texts_go up hk hg n hn2 l s hs q6 _ 0 hPr hCA (.inr ⟨rfl, hRPr⟩) A B A I E2 hPa hRP hAB
  · have q : (actsE n l != 0) = true := by simpa using h0
    rw [q, cond_true] at hPr
    exact texts_go up hk hg n hn2 l s hs q6 _ _ hPr hCA (.inl ⟨by simpa using h0, rfl⟩) A B A I E2 hPa hRP hAB
end Go.Proofs.YtkdlegfakefjgaaGreatDoor.Ix
