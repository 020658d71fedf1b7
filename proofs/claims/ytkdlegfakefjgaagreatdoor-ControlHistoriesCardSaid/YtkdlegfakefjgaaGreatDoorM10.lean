/-
  Ks4: ControlHistories: the law.
-/
import Derived.Test.YtkdlegfakefjgaaGreatDoorM9
namespace Go.Proofs.YtkdlegfakefjgaaGreatDoor.Ix
open Go.Proofs
set_option maxRecDepth 100000
set_option linter.unusedVariables false
set_option linter.unusedSimpArgs false
variable {gl : Nat → IV}

theorem hist_no (up : List Ces) (hk : gl g_control_kinds = kindsI) (hg : gl g_internal_strconv_uint64pow10 = powI) (m : Mc) (n : Nat) (hn : n ≤ 9223372036854775807) (l : Nat → Ac) (hs : m.smallB = false ∨ shortA n l 24 = false) :
    Cs gl n_nacellelaw05_ControlHistories up [m.iv, .lst none 5 n fun i => (l i).cs] (.bool true) up := by
  refine mk h_nacellelaw05_ControlHistories rfl rfl ?_
  have hS := fun up => c_rSmall (gl := gl) up m
  have hA := fun up => c_awake (gl := gl) up hk hg
  have hSh := fun up => c_rShort (gl := gl) up n hn l 24
  cases qs : m.smallB with
  | false =>
    rw [qs] at hS
    conv => whnf
    repeat first
      | (refine DRAW.seek ?_; repeat (first | refine TRYD.take ?_ | refine TRYD.next ?_); conv => whnf)
      | (refine HOLD.mk (by first | exact trivial | exact ⟨⟨rfl, rfl⟩, trivial⟩ | exact ⟨⟨rfl, rfl⟩, ⟨rfl, rfl⟩, trivial⟩) ?_; (conv => whnf))
      | (refine CALL0.by (hS ..) rfl ?_; conv => whnf)
      | (refine CALLQ.mk _ _ _ (leL_refl _) (hS ..) rfl ?_; conv => whnf)
      | (refine CALL0.by (hA ..) rfl ?_; conv => whnf)
      | (refine CALLQ.mk _ _ _ (leL_refl _) (hA ..) rfl ?_; conv => whnf)
    exact ⟨rfl, rfl⟩
  | true =>
    rw [qs] at hS
    rw [hs.resolve_left (by rw [qs]; nofun)] at hSh
    conv => whnf
    repeat first
      | (refine DRAW.seek ?_; repeat (first | refine TRYD.take ?_ | refine TRYD.next ?_); conv => whnf)
      | (refine HOLD.mk (by first | exact trivial | exact ⟨⟨rfl, rfl⟩, trivial⟩ | exact ⟨⟨rfl, rfl⟩, ⟨rfl, rfl⟩, trivial⟩) ?_; (conv => whnf))
      | (refine CALL0.by (hS ..) rfl ?_; conv => whnf)
      | (refine CALLQ.mk _ _ _ (leL_refl _) (hS ..) rfl ?_; conv => whnf)
      | (refine CALL0.by (hSh ..) rfl ?_; conv => whnf)
      | (refine CALLQ.mk _ _ _ (leL_refl _) (hSh ..) rfl ?_; conv => whnf)
      | (refine CALL0.by (hA ..) rfl ?_; conv => whnf)
      | (refine CALLQ.mk _ _ _ (leL_refl _) (hA ..) rfl ?_; conv => whnf)
    exact ⟨rfl, rfl⟩

theorem c_sameInNil (up : List Ces) : Cs gl n_nacelleref01_SameInts up [.nilS, .nilS] (.bool true) up :=
  Comp.le (args' := [.lst none 1 0 fun i => [.int .i64 0], .lst none 1 0 fun i => [.int .i64 0]]) ⟨rfl, rfl, trivial⟩ (c_rSameInts up 0 0 (by decide) (fun _ => 0) fun _ => 0)

/-- What is read behind each call. -/
def lvHist : List (Nat × List Nat) := [(19, [1, 2, 4, 5, 6, 7, 8, 9, 10, 11, 19]), (23, [1, 2, 4, 5, 6, 7, 8, 9, 10, 11, 21, 23]), (26, [1, 2, 4, 5, 6, 7, 8, 9, 10, 11, 26]), (29, [1, 2, 4, 5, 6, 7, 8, 9, 10, 11, 29]), (31, [1, 2, 4, 5, 6, 7, 8, 9, 10, 11, 29, 31]), (32, [1, 2, 4, 5, 6, 7, 8, 9, 10, 11, 32]), (38, [1, 2, 4, 5, 6, 7, 8, 9, 10, 11, 38]), (40, [1, 2, 4, 5, 6, 7, 8, 9, 10, 11, 38, 40]), (41, [1, 2, 4, 5, 6, 7, 8, 9, 10, 11, 41]), (46, [1, 2, 4, 5, 6, 7, 8, 9, 10, 11, 46]), (48, [1, 2, 4, 5, 6, 7, 8, 9, 10, 11, 46, 48]), (49, [1, 2, 4, 5, 6, 7, 8, 9, 10, 11, 49]), (53, [1, 2, 4, 5, 6, 7, 8, 9, 10, 11, 53]), (59, [1, 2, 4, 5, 6, 7, 8, 9, 10, 11, 12, 13, 14, 15, 16, 17, 59]), (73, [1, 2, 4, 5, 6, 7, 8, 9, 10, 11, 12, 13, 14, 15, 16, 70, 73]), (76, [4, 5, 6, 7, 8, 9, 10, 11, 12, 13, 14, 15, 16, 70, 73, 76]), (93, [4, 9, 10, 11, 12, 16, 90, 93]), (111, [4, 110, 111])]

set_option maxHeartbeats 16000000 in
/-- A machine with an error. -/
theorem hist_bad (up : List Ces) (hk : gl g_control_kinds = kindsI) (hg : gl g_internal_strconv_uint64pow10 = powI) (m : Mc) (n : Nat) (l : Nat → Ac) (hs : m.smallB = true) (hsh : shortA n l 24 = true) (he : m.err ≠ 0) :
    Cs gl n_nacellelaw05_ControlHistories up [m.iv, .lst none 5 n fun i => (l i).cs] (.bool true) up := by
  have hn : n ≤ 10000000 := by rcases short_le hsh with h | h <;> omega
  have hS := fun up => c_rSmall (gl := gl) up m
  rw [hs] at hS
  have hA := fun up => c_awake (gl := gl) up hk hg
  have hSh := fun up => c_rShort (gl := gl) up n (by omega) l 24
  rw [hsh] at hSh
  have hAc := fun up => c_acts (gl := gl) up n hn l
  have hM := fun up => c_rMachine (gl := gl) up m
  have hRe := fun up => c_Replay (gl := gl) up hk m n hn l
  have hSp := fun up => c_Speeds (gl := gl) up hk m n hn l
  have hEn := fun up => c_Energy (gl := gl) up hk m n hn l
  obtain ⟨z, hz⟩ : ∃ z, z = ByteArray.empty := ⟨_, rfl⟩
  have ez : sta0 = ⟨z, 0, 0, 0, 0, 0, 0⟩ := by rw [hz]; rfl
  have nz : eqSta ⟨z, 0, 0, 0, 0, 0, 0⟩ ⟨ByteArray.empty, 0, 0, 0, 0, 0, 0⟩ = true := by rw [hz]; exact eqSta_refl _
  rw [ez] at hRe
  obtain ⟨E, hE⟩ : ∃ E, E = m.err := ⟨_, rfl⟩
  have qE : (E != 0) = true := by rw [hE]; simpa using he
  have zE : (E == 0) = false := by rw [hE]; simpa using he
  have e0 : repE0 m n = E := by
    unfold repE0
    rw [← hE]; exact orL_ne qE
  rw [e0, qE] at hRe hSp hEn
  rw [← hE] at hM
  simp only [cond_true] at hRe hSp hEn
  have eE : (E == E) = true := beq_self_eq_true E
  clear e0 hE he hz ez
  refine mk h_nacellelaw05_ControlHistories rfl rfl ?_
  conv => whnf
  repeat first
    | (refine DRAW.seek ?_; repeat (first | refine TRYD.take ?_ | refine TRYD.next ?_); conv => whnf)
    | (refine HOLD.mk (by first | exact trivial | exact ⟨⟨rfl, rfl⟩, trivial⟩ | exact ⟨⟨rfl, rfl⟩, ⟨rfl, rfl⟩, trivial⟩) ?_; (conv => whnf))
    | (refine CALL0.cutBy lvHist _ _ _ _ _ (leL_refl _) (hS ..) rfl ?_; conv => whnf)
    | (refine CALL0.by (hS ..) rfl ?_; conv => whnf)
    | (refine CALLQ.mk _ _ _ (leL_refl _) (hS ..) rfl ?_; conv => whnf)
    | (refine CALL0.cutBy lvHist _ _ _ _ _ (leL_refl _) (hSh ..) rfl ?_; conv => whnf)
    | (refine CALL0.by (hSh ..) rfl ?_; conv => whnf)
    | (refine CALLQ.mk _ _ _ (leL_refl _) (hSh ..) rfl ?_; conv => whnf)
    | (refine CALL0.cutBy lvHist _ _ _ _ _ (leL_refl _) (c_machine ..) rfl ?_; conv => whnf)
    | (refine CALL0.by (c_machine ..) rfl ?_; conv => whnf)
    | (refine CALLQ.mk _ _ _ (leL_refl _) (c_machine ..) rfl ?_; conv => whnf)
    | (refine CALL0.cutBy lvHist _ _ _ _ _ (leL_refl _) (hAc ..) rfl ?_; conv => whnf)
    | (refine CALL0.by (hAc ..) rfl ?_; conv => whnf)
    | (refine CALLQ.mk _ _ _ (leL_refl _) (hAc ..) rfl ?_; conv => whnf)
    | (refine CALL0.cutBy lvHist _ _ _ _ _ (leL_refl _) (hRe ..) rfl ?_; conv => whnf)
    | (refine CALL0.by (hRe ..) rfl ?_; conv => whnf)
    | (refine CALLQ.mk _ _ _ (leL_refl _) (hRe ..) rfl ?_; conv => whnf)
    | (refine CALL0.cutBy lvHist _ _ _ _ _ (leL_refl _) (hSp ..) rfl ?_; conv => whnf)
    | (refine CALL0.by (hSp ..) rfl ?_; conv => whnf)
    | (refine CALLQ.mk _ _ _ (leL_refl _) (hSp ..) rfl ?_; conv => whnf)
    | (refine CALL0.cutBy lvHist _ _ _ _ _ (leL_refl _) (hEn ..) rfl ?_; conv => whnf)
    | (refine CALL0.by (hEn ..) rfl ?_; conv => whnf)
    | (refine CALLQ.mk _ _ _ (leL_refl _) (hEn ..) rfl ?_; conv => whnf)
    | (refine CALL0.cutBy lvHist _ _ _ _ _ (leL_refl _) (hM ..) rfl ?_; conv => whnf)
    | (refine CALL0.by (hM ..) rfl ?_; conv => whnf)
    | (refine CALLQ.mk _ _ _ (leL_refl _) (hM ..) rfl ?_; conv => whnf)
  split
  · rename_i h
    exact Bool.noConfusion ((zE).symm.trans h)
  rename_i hN
  clear hN
  conv => whnf
  split
  rotate_left
  · rename_i h
    exact Bool.noConfusion ((nz).symm.trans h)
  rename_i hN
  clear hN
  conv => whnf
  split
  rotate_left
  · rename_i h
    exact Bool.noConfusion ((eE).symm.trans h)
  rename_i hN
  clear hN
  conv => whnf
  repeat first
    | (refine DRAW.seek ?_; repeat (first | refine TRYD.take ?_ | refine TRYD.next ?_); conv => whnf)
    | (refine HOLD.mk (by first | exact trivial | exact ⟨⟨rfl, rfl⟩, trivial⟩ | exact ⟨⟨rfl, rfl⟩, ⟨rfl, rfl⟩, trivial⟩) ?_; (conv => whnf))
    | (refine CALL0.cutBy lvHist _ _ _ _ _ (leL_refl _) (c_sameInNil ..) rfl ?_; conv => whnf)
    | (refine CALL0.by (c_sameInNil ..) rfl ?_; conv => whnf)
    | (refine CALLQ.mk _ _ _ (leL_refl _) (c_sameInNil ..) rfl ?_; conv => whnf)
  split
  rotate_left
  · rename_i h
    exact Bool.noConfusion ((eE).symm.trans h)
  rename_i hN
  clear hN
  conv => whnf
  split
  rotate_left
  · rename_i h
    exact Bool.noConfusion ((eE).symm.trans h)
  rename_i hN
  clear hN
  conv => whnf
  repeat first
    | (refine DRAW.seek ?_; repeat (first | refine TRYD.take ?_ | refine TRYD.next ?_); conv => whnf)
    | (refine HOLD.mk (by first | exact trivial | exact ⟨⟨rfl, rfl⟩, trivial⟩ | exact ⟨⟨rfl, rfl⟩, ⟨rfl, rfl⟩, trivial⟩) ?_; (conv => whnf))
    | (refine CALL0.cutBy lvHist _ _ _ _ _ (leL_refl _) (hA ..) rfl ?_; conv => whnf)
    | (refine CALL0.by (hA ..) rfl ?_; conv => whnf)
    | (refine CALLQ.mk _ _ _ (leL_refl _) (hA ..) rfl ?_; conv => whnf)
  exact ⟨rfl, rfl⟩

set_option maxHeartbeats 16000000 in
/-- Too many acts, or an act with an error. -/
theorem hist_err (up : List Ces) (hk : gl g_control_kinds = kindsI) (hg : gl g_internal_strconv_uint64pow10 = powI) (m : Mc) (n : Nat) (l : Nat → Ac) (hs : m.smallB = true) (hsh : shortA n l 24 = true) (he : m.err = 0) (N E : Int) (qE : (E != 0) = true) (hRe' : ∀ up, Cs gl n_control_Replay up [m.iv, .lst none 5 n fun i => (l i).cs] (.tup [sta0.iv, .int .i64 N, .int .i64 E]) up)
    (hSp' : ∀ up, Cs gl n_control_Speeds up [m.iv, .lst none 5 n fun i => (l i).cs] (.tup [.nilS, .int .i64 E]) up)
    (hEn' : ∀ up, Cs gl n_control_Energy up [m.iv, .lst none 5 n fun i => (l i).cs] (.tup [.int .i64 0, .int .i64 E]) up)
    (hSt : ∀ up, Cs gl n_nacelleref05_States up [m.iv, .lst none 5 n fun i => (l i).cs] (.tup [.nilS, .int .i64 N, .int .i64 E]) up) :
    Cs gl n_nacellelaw05_ControlHistories up [m.iv, .lst none 5 n fun i => (l i).cs] (.bool true) up := by
  have hn : n ≤ 10000000 := by rcases short_le hsh with h | h <;> omega
  have hS := fun up => c_rSmall (gl := gl) up m
  rw [hs] at hS
  have hA := fun up => c_awake (gl := gl) up hk hg
  have hSh := fun up => c_rShort (gl := gl) up n (by omega) l 24
  rw [hsh] at hSh
  have hAc := fun up => c_acts (gl := gl) up n hn l
  have hM := fun up => c_rMachine (gl := gl) up m
  have hRe := hRe'
  have hSp := hSp'
  have hEn := hEn'
  obtain ⟨z, hz⟩ : ∃ z, z = ByteArray.empty := ⟨_, rfl⟩
  have ez : sta0 = ⟨z, 0, 0, 0, 0, 0, 0⟩ := by rw [hz]; rfl
  have nz : eqSta ⟨z, 0, 0, 0, 0, 0, 0⟩ ⟨ByteArray.empty, 0, 0, 0, 0, 0, 0⟩ = true := by rw [hz]; exact eqSta_refl _
  rw [ez] at hRe
  have zE : (E == 0) = false := by simpa using qE
  have eE : (E == E) = true := beq_self_eq_true E
  have eN : (N == N) = true := beq_self_eq_true N
  rw [he] at hM
  clear hRe' hSp' hEn' hz ez he
  refine mk h_nacellelaw05_ControlHistories rfl rfl ?_
  conv => whnf
  repeat first
    | (refine DRAW.seek ?_; repeat (first | refine TRYD.take ?_ | refine TRYD.next ?_); conv => whnf)
    | (refine HOLD.mk (by first | exact trivial | exact ⟨⟨rfl, rfl⟩, trivial⟩ | exact ⟨⟨rfl, rfl⟩, ⟨rfl, rfl⟩, trivial⟩) ?_; (conv => whnf))
    | (refine CALL0.cutBy lvHist _ _ _ _ _ (leL_refl _) (hS ..) rfl ?_; conv => whnf)
    | (refine CALL0.by (hS ..) rfl ?_; conv => whnf)
    | (refine CALLQ.mk _ _ _ (leL_refl _) (hS ..) rfl ?_; conv => whnf)
    | (refine CALL0.cutBy lvHist _ _ _ _ _ (leL_refl _) (hSh ..) rfl ?_; conv => whnf)
    | (refine CALL0.by (hSh ..) rfl ?_; conv => whnf)
    | (refine CALLQ.mk _ _ _ (leL_refl _) (hSh ..) rfl ?_; conv => whnf)
    | (refine CALL0.cutBy lvHist _ _ _ _ _ (leL_refl _) (c_machine ..) rfl ?_; conv => whnf)
    | (refine CALL0.by (c_machine ..) rfl ?_; conv => whnf)
    | (refine CALLQ.mk _ _ _ (leL_refl _) (c_machine ..) rfl ?_; conv => whnf)
    | (refine CALL0.cutBy lvHist _ _ _ _ _ (leL_refl _) (hAc ..) rfl ?_; conv => whnf)
    | (refine CALL0.by (hAc ..) rfl ?_; conv => whnf)
    | (refine CALLQ.mk _ _ _ (leL_refl _) (hAc ..) rfl ?_; conv => whnf)
    | (refine CALL0.cutBy lvHist _ _ _ _ _ (leL_refl _) (hRe ..) rfl ?_; conv => whnf)
    | (refine CALL0.by (hRe ..) rfl ?_; conv => whnf)
    | (refine CALLQ.mk _ _ _ (leL_refl _) (hRe ..) rfl ?_; conv => whnf)
    | (refine CALL0.cutBy lvHist _ _ _ _ _ (leL_refl _) (hSp ..) rfl ?_; conv => whnf)
    | (refine CALL0.by (hSp ..) rfl ?_; conv => whnf)
    | (refine CALLQ.mk _ _ _ (leL_refl _) (hSp ..) rfl ?_; conv => whnf)
    | (refine CALL0.cutBy lvHist _ _ _ _ _ (leL_refl _) (hEn ..) rfl ?_; conv => whnf)
    | (refine CALL0.by (hEn ..) rfl ?_; conv => whnf)
    | (refine CALLQ.mk _ _ _ (leL_refl _) (hEn ..) rfl ?_; conv => whnf)
    | (refine CALL0.cutBy lvHist _ _ _ _ _ (leL_refl _) (hM ..) rfl ?_; conv => whnf)
    | (refine CALL0.by (hM ..) rfl ?_; conv => whnf)
    | (refine CALLQ.mk _ _ _ (leL_refl _) (hM ..) rfl ?_; conv => whnf)
  repeat first
    | (refine DRAW.seek ?_; repeat (first | refine TRYD.take ?_ | refine TRYD.next ?_); conv => whnf)
    | (refine HOLD.mk (by first | exact trivial | exact ⟨⟨rfl, rfl⟩, trivial⟩ | exact ⟨⟨rfl, rfl⟩, ⟨rfl, rfl⟩, trivial⟩) ?_; (conv => whnf))
    | (refine CALL0.cutBy lvHist _ _ _ _ _ (leL_refl _) (hSt ..) rfl ?_; conv => whnf)
    | (refine CALL0.by (hSt ..) rfl ?_; conv => whnf)
    | (refine CALLQ.mk _ _ _ (leL_refl _) (hSt ..) rfl ?_; conv => whnf)
  split
  · rename_i h
    exact Bool.noConfusion ((zE).symm.trans h)
  rename_i hN
  clear hN
  conv => whnf
  split
  rotate_left
  · rename_i h
    exact Bool.noConfusion ((nz).symm.trans h)
  rename_i hN
  clear hN
  conv => whnf
  split
  rotate_left
  · rename_i h
    exact Bool.noConfusion ((eN).symm.trans h)
  rename_i hN
  clear hN
  conv => whnf
  split
  rotate_left
  · rename_i h
    exact Bool.noConfusion ((eE).symm.trans h)
  rename_i hN
  clear hN
  conv => whnf
  repeat first
    | (refine DRAW.seek ?_; repeat (first | refine TRYD.take ?_ | refine TRYD.next ?_); conv => whnf)
    | (refine HOLD.mk (by first | exact trivial | exact ⟨⟨rfl, rfl⟩, trivial⟩ | exact ⟨⟨rfl, rfl⟩, ⟨rfl, rfl⟩, trivial⟩) ?_; (conv => whnf))
    | (refine CALL0.cutBy lvHist _ _ _ _ _ (leL_refl _) (c_sameInNil ..) rfl ?_; conv => whnf)
    | (refine CALL0.by (c_sameInNil ..) rfl ?_; conv => whnf)
    | (refine CALLQ.mk _ _ _ (leL_refl _) (c_sameInNil ..) rfl ?_; conv => whnf)
  split
  rotate_left
  · rename_i h
    exact Bool.noConfusion ((eE).symm.trans h)
  rename_i hN
  clear hN
  conv => whnf
  split
  rotate_left
  · rename_i h
    exact Bool.noConfusion ((eE).symm.trans h)
  rename_i hN
  clear hN
  conv => whnf
  repeat first
    | (refine DRAW.seek ?_; repeat (first | refine TRYD.take ?_ | refine TRYD.next ?_); conv => whnf)
    | (refine HOLD.mk (by first | exact trivial | exact ⟨⟨rfl, rfl⟩, trivial⟩ | exact ⟨⟨rfl, rfl⟩, ⟨rfl, rfl⟩, trivial⟩) ?_; (conv => whnf))
    | (refine CALL0.cutBy lvHist _ _ _ _ _ (leL_refl _) (hA ..) rfl ?_; conv => whnf)
    | (refine CALL0.by (hA ..) rfl ?_; conv => whnf)
    | (refine CALLQ.mk _ _ _ (leL_refl _) (hA ..) rfl ?_; conv => whnf)
  exact ⟨rfl, rfl⟩

set_option maxHeartbeats 16000000 in
theorem hist_ok (up : List Ces) (hk : gl g_control_kinds = kindsI) (hg : gl g_internal_strconv_uint64pow10 = powI) (m : Mc) (n : Nat) (l : Nat → Ac) (hs : m.smallB = true) (hsh : shortA n l 24 = true) (he : m.err = 0) (hH : Hist m n l) :
    Cs gl n_nacellelaw05_ControlHistories up [m.iv, .lst none 5 n fun i => (l i).cs] (.bool true) up := by
  have hn : n ≤ 10000000 := by rcases short_le hsh with h | h <;> omega
  have hS := fun up => c_rSmall (gl := gl) up m
  rw [hs] at hS
  have hA := fun up => c_awake (gl := gl) up hk hg
  have hSh := fun up => c_rShort (gl := gl) up n (by omega) l 24
  rw [hsh] at hSh
  have hAc := fun up => c_acts (gl := gl) up n hn l
  have hM := fun up => c_rMachine (gl := gl) up m
  have hRe := fun up => c_Replay (gl := gl) up hk m n hn l
  have hSp := fun up => c_Speeds (gl := gl) up hk m n hn l
  have hEn := fun up => c_Energy (gl := gl) up hk m n hn l
  obtain ⟨z, hz⟩ : ∃ z, z = ByteArray.empty := ⟨_, rfl⟩
  have ez : sta0 = ⟨z, 0, 0, 0, 0, 0, 0⟩ := by rw [hz]; rfl
  have nz : eqSta ⟨z, 0, 0, 0, 0, 0, 0⟩ ⟨ByteArray.empty, 0, 0, 0, 0, 0, 0⟩ = true := by rw [hz]; exact eqSta_refl _
  rw [ez] at hRe
  have hl := hH.len
  have e0 : repE0 m n = 0 := by
    unfold repE0
    rw [he, show decide ((n : Int) > 1024) = false from decide_eq_false (by omega)]; rfl
  rw [e0, hH.err] at hRe hSp hEn
  rw [show ((0 : Int) != 0) = false from rfl] at hRe hSp hEn
  simp only [cond_false] at hRe hSp hEn
  rw [he] at hM
  have hSt := fun up => c_rStatesOk (gl := gl) up m n l hH
  have hrS := fun up => c_rSpeeds (gl := gl) up m n l hH
  have hrE := fun up => c_rEnergy (gl := gl) up m n l hH
  have hSI := fun up => c_rSameInts (gl := gl) up n n hn (fun i => (repS m l (i + 1)).speed) (fun i => (repS m l (i + 1)).speed)
  rw [sameIn_refl] at hSI
  obtain ⟨y, hy⟩ : ∃ y, y = repS m l n := ⟨_, rfl⟩
  have ey : eqSta y (repS m l n) = true := by rw [hy]; exact eqSta_refl _
  rw [← hy] at hRe
  obtain ⟨G, hG⟩ : ∃ G, G = engS m l n := ⟨_, rfl⟩
  rw [← hG] at hEn hrE
  have eG : (G == G) = true := beq_self_eq_true G
  have hw : w64 (((1 + n : Nat) : Int) - 1) = (n : Int) := by rw [w64, wrap_in] <;> omega
  have q1 : decide (0 ≤ w64 (((1 + n : Nat) : Int) - 1)) = true := by rw [hw]; exact decide_eq_true (by omega)
  have q2 : decide (w64 (((1 + n : Nat) : Int) - 1) < ((1 + n : Nat) : Int)) = true := by rw [hw]; exact decide_eq_true (by omega)
  have q3 : eqSta y (repS m l (w64 (((1 + n : Nat) : Int) - 1)).toNat) = true := by rw [hw]; exact ey
  clear e0 hz ez hy ey hG he hw
  refine mk h_nacellelaw05_ControlHistories rfl rfl ?_
  conv => whnf
  repeat first
    | (refine DRAW.seek ?_; repeat (first | refine TRYD.take ?_ | refine TRYD.next ?_); conv => whnf)
    | (refine HOLD.mk (by first | exact trivial | exact ⟨⟨rfl, rfl⟩, trivial⟩ | exact ⟨⟨rfl, rfl⟩, ⟨rfl, rfl⟩, trivial⟩) ?_; (conv => whnf))
    | (refine CALL0.cutBy lvHist _ _ _ _ _ (leL_refl _) (hS ..) rfl ?_; conv => whnf)
    | (refine CALL0.by (hS ..) rfl ?_; conv => whnf)
    | (refine CALLQ.mk _ _ _ (leL_refl _) (hS ..) rfl ?_; conv => whnf)
    | (refine CALL0.cutBy lvHist _ _ _ _ _ (leL_refl _) (hSh ..) rfl ?_; conv => whnf)
    | (refine CALL0.by (hSh ..) rfl ?_; conv => whnf)
    | (refine CALLQ.mk _ _ _ (leL_refl _) (hSh ..) rfl ?_; conv => whnf)
    | (refine CALL0.cutBy lvHist _ _ _ _ _ (leL_refl _) (c_machine ..) rfl ?_; conv => whnf)
    | (refine CALL0.by (c_machine ..) rfl ?_; conv => whnf)
    | (refine CALLQ.mk _ _ _ (leL_refl _) (c_machine ..) rfl ?_; conv => whnf)
    | (refine CALL0.cutBy lvHist _ _ _ _ _ (leL_refl _) (hAc ..) rfl ?_; conv => whnf)
    | (refine CALL0.by (hAc ..) rfl ?_; conv => whnf)
    | (refine CALLQ.mk _ _ _ (leL_refl _) (hAc ..) rfl ?_; conv => whnf)
    | (refine CALL0.cutBy lvHist _ _ _ _ _ (leL_refl _) (hRe ..) rfl ?_; conv => whnf)
    | (refine CALL0.by (hRe ..) rfl ?_; conv => whnf)
    | (refine CALLQ.mk _ _ _ (leL_refl _) (hRe ..) rfl ?_; conv => whnf)
    | (refine CALL0.cutBy lvHist _ _ _ _ _ (leL_refl _) (hSp ..) rfl ?_; conv => whnf)
    | (refine CALL0.by (hSp ..) rfl ?_; conv => whnf)
    | (refine CALLQ.mk _ _ _ (leL_refl _) (hSp ..) rfl ?_; conv => whnf)
    | (refine CALL0.cutBy lvHist _ _ _ _ _ (leL_refl _) (hEn ..) rfl ?_; conv => whnf)
    | (refine CALL0.by (hEn ..) rfl ?_; conv => whnf)
    | (refine CALLQ.mk _ _ _ (leL_refl _) (hEn ..) rfl ?_; conv => whnf)
    | (refine CALL0.cutBy lvHist _ _ _ _ _ (leL_refl _) (hM ..) rfl ?_; conv => whnf)
    | (refine CALL0.by (hM ..) rfl ?_; conv => whnf)
    | (refine CALLQ.mk _ _ _ (leL_refl _) (hM ..) rfl ?_; conv => whnf)
  repeat first
    | (refine DRAW.seek ?_; repeat (first | refine TRYD.take ?_ | refine TRYD.next ?_); conv => whnf)
    | (refine HOLD.mk (by first | exact trivial | exact ⟨⟨rfl, rfl⟩, trivial⟩ | exact ⟨⟨rfl, rfl⟩, ⟨rfl, rfl⟩, trivial⟩) ?_; (conv => whnf))
    | (refine CALL0.cutBy lvHist _ _ _ _ _ (leL_refl _) (hSt ..) rfl ?_; conv => whnf)
    | (refine CALL0.by (hSt ..) rfl ?_; conv => whnf)
    | (refine CALLQ.mk _ _ _ (leL_refl _) (hSt ..) rfl ?_; conv => whnf)
  split
  rotate_left
  · rename_i h
    exact Bool.noConfusion ((q1).symm.trans h)
  rename_i hN
  clear hN
  conv => whnf
  split
  rotate_left
  · rename_i h
    exact Bool.noConfusion ((q2).symm.trans h)
  rename_i hN
  clear hN
  conv => whnf
  repeat first
    | (refine DRAW.seek ?_; repeat (first | refine TRYD.take ?_ | refine TRYD.next ?_); conv => whnf)
    | (refine HOLD.mk (by first | exact trivial | exact ⟨⟨rfl, rfl⟩, trivial⟩ | exact ⟨⟨rfl, rfl⟩, ⟨rfl, rfl⟩, trivial⟩) ?_; (conv => whnf))
    | (refine CALL0.cutBy lvHist _ _ _ _ _ (leL_refl _) (hrS ..) rfl ?_; conv => whnf)
    | (refine CALL0.by (hrS ..) rfl ?_; conv => whnf)
    | (refine CALLQ.mk _ _ _ (leL_refl _) (hrS ..) rfl ?_; conv => whnf)
    | (refine CALL0.cutBy lvHist _ _ _ _ _ (leL_refl _) (hrE ..) rfl ?_; conv => whnf)
    | (refine CALL0.by (hrE ..) rfl ?_; conv => whnf)
    | (refine CALLQ.mk _ _ _ (leL_refl _) (hrE ..) rfl ?_; conv => whnf)
  split
  rotate_left
  · rename_i h
    exact Bool.noConfusion ((q3).symm.trans h)
  rename_i hN
  clear hN
  conv => whnf
  repeat first
    | (refine DRAW.seek ?_; repeat (first | refine TRYD.take ?_ | refine TRYD.next ?_); conv => whnf)
    | (refine HOLD.mk (by first | exact trivial | exact ⟨⟨rfl, rfl⟩, trivial⟩ | exact ⟨⟨rfl, rfl⟩, ⟨rfl, rfl⟩, trivial⟩) ?_; (conv => whnf))
    | (refine CALL0.cutBy lvHist _ _ _ _ _ (leL_refl _) (hSI ..) rfl ?_; conv => whnf)
    | (refine CALL0.by (hSI ..) rfl ?_; conv => whnf)
    | (refine CALLQ.mk _ _ _ (leL_refl _) (hSI ..) rfl ?_; conv => whnf)
  split
  rotate_left
  · rename_i h
    exact Bool.noConfusion ((eG).symm.trans h)
  rename_i hN
  clear hN
  conv => whnf
  repeat first
    | (refine DRAW.seek ?_; repeat (first | refine TRYD.take ?_ | refine TRYD.next ?_); conv => whnf)
    | (refine HOLD.mk (by first | exact trivial | exact ⟨⟨rfl, rfl⟩, trivial⟩ | exact ⟨⟨rfl, rfl⟩, ⟨rfl, rfl⟩, trivial⟩) ?_; (conv => whnf))
    | (refine CALL0.cutBy lvHist _ _ _ _ _ (leL_refl _) (hA ..) rfl ?_; conv => whnf)
    | (refine CALL0.by (hA ..) rfl ?_; conv => whnf)
    | (refine CALLQ.mk _ _ _ (leL_refl _) (hA ..) rfl ?_; conv => whnf)
  exact ⟨rfl, rfl⟩

theorem c_ControlHistories (up : List Ces) (hk : gl g_control_kinds = kindsI) (hg : gl g_internal_strconv_uint64pow10 = powI) (m : Mc) (n : Nat) (hn : n ≤ 9223372036854775807) (l : Nat → Ac) :
    Cs gl n_nacellelaw05_ControlHistories up [m.iv, .lst none 5 n fun i => (l i).cs] (.bool true) up := by
  cases hs : m.smallB with
  | false => exact hist_no up hk hg m n hn l (.inl hs)
  | true =>
  cases hsh : shortA n l 24 with
  | false => exact hist_no up hk hg m n hn l (.inr hsh)
  | true =>
  have hn2 : n ≤ 10000000 := by rcases short_le hsh with h | h <;> omega
  by_cases he : m.err = 0
  rotate_left
  · exact hist_bad up hk hg m n l hs hsh he
  have hm := Mc.err_ok he
  have hRe := fun up => c_Replay (gl := gl) up hk m n hn2 l
  have hSp := fun up => c_Speeds (gl := gl) up hk m n hn2 l
  have hEn := fun up => c_Energy (gl := gl) up hk m n hn2 l
  have hSt := fun up => c_rStates (gl := gl) up m n hn2 l hm
  unfold statesR at hSt
  cases q0 : decide ((n : Int) > 1024) with
  | true =>
    have e0 : repE0 m n = 5 := by
      unfold repE0
      rw [he, q0]; rfl
    rw [e0] at hRe hSp hEn
    rw [q0] at hSt
    exact hist_err up hk hg m n l hs hsh he 0 5 rfl hRe hSp hEn hSt
  | false =>
  have e0 : repE0 m n = 0 := by
    unfold repE0
    rw [he, q0]; rfl
  rw [e0, show ((0 : Int) != 0) = false from rfl] at hRe hSp hEn
  rw [q0] at hSt
  cases q1 : ((repE m l n 0).2 != 0) with
  | true =>
    rw [q1] at hRe hSp hEn hSt
    exact hist_err up hk hg m n l hs hsh he (repE m l n 0).1 (repE m l n 0).2 q1 hRe hSp hEn hSt
  | false =>
    exact hist_ok up hk hg m n l hs hsh he ⟨hm, by have := of_decide_eq_false q0; omega, by simpa using q1⟩
end Go.Proofs.YtkdlegfakefjgaaGreatDoor.Ix
