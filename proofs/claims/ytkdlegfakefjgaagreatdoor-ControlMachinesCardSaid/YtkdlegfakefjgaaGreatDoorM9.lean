/-
  Ks5: ControlMachines: the law.
-/
import Derived.Test.YtkdlegfakefjgaaGreatDoorM8
namespace Go.Proofs.YtkdlegfakefjgaaGreatDoor.Ix
open Go.Proofs
set_option maxRecDepth 100000
set_option linter.unusedVariables false
set_option linter.unusedSimpArgs false
variable {gl : Nat → IV}

theorem c_Clone (up : List Ces) (f : Nat → List IV) : Cs gl n_slices_Clone_string_string up [.lst none 1 6 f] (.lst (some 7) 1 6 f) up := by
  refine mk h_slices_Clone_string_string rfl rfl ?_
  conv => whnf
  exact ⟨rfl, rfl⟩

theorem c_Kinds (up : List Ces) (hk : gl g_control_kinds = kindsI) : Cs gl n_control_Kinds up [] (.lst none 1 6 fun i => [.str (kindsL.getD i ByteArray.empty)]) up := by
  have h : Cs gl n_control_Kinds up [] (.lst (some 2) 1 6 kindsF) up := by
    refine mk h_control_Kinds rfl rfl ?_
    conv => whnf
    rw [evo_gl hk]
    conv => whnf
    rw [evo_gl hk]
    conv => whnf
    repeat first
      | (refine DRAW.seek ?_; repeat (first | refine TRYD.take ?_ | refine TRYD.next ?_); conv => whnf)
      | (refine HOLD.mk (by first | exact trivial | exact ⟨⟨rfl, rfl⟩, trivial⟩ | exact ⟨⟨rfl, rfl⟩, ⟨rfl, rfl⟩, trivial⟩) ?_; (conv => whnf))
      | (refine CALL0.by (c_Clone ..) rfl ?_; conv => whnf)
      | (refine CALLQ.mk _ _ _ (leL_refl _) (c_Clone ..) rfl ?_; conv => whnf)
    exact ⟨rfl, rfl⟩
  exact h.res ⟨.inl rfl, rfl, rfl, fun i hi => kindsF_at i hi⟩

def sameWd (n k : Nat) (f g : Nat → ByteArray) : Bool := bif (n : Int) != k then false else allB (fun i => eqS (f i) (g i)) n 0

theorem c_rSameWords (up : List Ces) (n k : Nat) (hn : n ≤ 10000000) (f g : Nat → ByteArray) :
    Cs gl n_nacelleref01_SameWords up [.lst none 1 n fun i => [.str (f i)], .lst none 1 k fun i => [.str (g i)]] (.bool (sameWd n k f g)) up := by
  refine mk h_nacelleref01_SameWords rfl rfl ?_
  unfold sameWd
  cases q0 : ((n : Int) != k) with
  | true =>
    conv => whnf
    split
    rotate_left
    · rename_i h
      exact Bool.noConfusion ((q0).symm.trans h)
    rename_i hN
    clear hN
    conv => whnf
    exact ⟨rfl, rfl⟩
  | false =>
    have e : n = k := by have : (n : Int) = k := by simpa using q0
                         omega
    subst e
    conv => whnf
    split
    · rename_i h
      exact Bool.noConfusion ((q0).symm.trans h)
    rename_i hN
    clear hN
    conv => whnf
    refine .mk (α := {i : Nat // i ≤ n ∧ allB (fun i => eqS (f i) (g i)) n 0 = allB (fun i => eqS (f i) (g i)) (n - i) i}) (fun i => ⟨[(5, .int .i64 i.1), (1, .lst none 1 n fun i => [.str (g i)]), (0, .lst none 1 n fun i => [.str (f i)])], [], up⟩) (fun i => n - i.1) ⟨0, Nat.zero_le _, rfl⟩ ⟨?_, ?_, rfl, rfl⟩ ?_
    · exact ⟨leV_refl _, leV_refl _, leV_refl _, trivial⟩
    · exact trivial
    rintro ⟨i, hi, he⟩
    have hw : w64 ((i : Int) + 1) = ((i + 1 : Nat) : Int) := by rw [w64, wrap_in] <;> omega
    by_cases hlt : i < n
    · have q : decide ((i : Int) < (n : Int)) = true := decide_eq_true (by omega)
      rw [allB_step hlt] at he
      cases qe : eqS (f i) (g i) with
      | false =>
        rw [qe, Bool.false_and] at he
        have ne : (!eqS (f i) (g i)) = true := by rw [qe]; rfl
        conv => whnf
        split
        rotate_left
        · rename_i h
          exact Bool.noConfusion ((q).symm.trans h)
        rename_i hN
        clear hN
        conv => whnf
        refine DRAW.seek ?_
        repeat (first | refine TRYD.take ?_ | refine TRYD.next ?_)
        conv => whnf
        split
        rotate_left
        · rename_i h
          exact Bool.noConfusion ((q).symm.trans h)
        rename_i hN
        clear hN
        conv => whnf
        split
        rotate_left
        · rename_i h
          exact Bool.noConfusion ((q).symm.trans h)
        rename_i hN
        clear hN
        conv => whnf
        split
        rotate_left
        · rename_i h
          exact Bool.noConfusion ((ne).symm.trans h)
        rename_i hN
        clear hN
        conv => whnf
        exact ⟨congrArg IV.bool he.symm, rfl⟩
      | true =>
        rw [qe, Bool.true_and] at he
        have ne : (!eqS (f i) (g i)) = false := by rw [qe]; rfl
        conv => whnf
        split
        rotate_left
        · rename_i h
          exact Bool.noConfusion ((q).symm.trans h)
        rename_i hN
        clear hN
        conv => whnf
        refine DRAW.seek ?_
        repeat (first | refine TRYD.take ?_ | refine TRYD.next ?_)
        conv => whnf
        split
        rotate_left
        · rename_i h
          exact Bool.noConfusion ((q).symm.trans h)
        rename_i hN
        clear hN
        conv => whnf
        split
        rotate_left
        · rename_i h
          exact Bool.noConfusion ((q).symm.trans h)
        rename_i hN
        clear hN
        conv => whnf
        split
        · rename_i h
          exact Bool.noConfusion ((ne).symm.trans h)
        rename_i hN
        clear hN
        conv => whnf
        exact ⟨⟨i + 1, hlt, he⟩, ⟨⟨leV_int hw, leV_refl _, leV_refl _, trivial⟩, trivial, rfl, rfl⟩, (by show n - (i + 1) < n - i; omega)⟩
    · have q : decide ((i : Int) < (n : Int)) = false := decide_eq_false (by omega)
      have : i = n := by omega
      subst this
      rw [Nat.sub_self] at he
      conv => whnf
      split
      · rename_i h
        exact Bool.noConfusion ((q).symm.trans h)
      rename_i hN
      clear hN
      conv => whnf
      exact ⟨congrArg IV.bool he.symm, rfl⟩


theorem sameWd_refl (n : Nat) (f : Nat → ByteArray) : sameWd n n f f = true := by
  unfold sameWd
  rw [show ((n : Int) != n) = false by simp, cond_false]
  have : ∀ n i, allB (fun i => eqS (f i) (f i)) n i = true := by
    intro n
    induction n with
    | zero => intro i; rfl
    | succ n ih => intro i; unfold allB; rw [ih, eqS_iff.2 rfl]; rfl
  exact this n 0

theorem machines_no (up : List Ces) (hk : gl g_control_kinds = kindsI) (hg : gl g_internal_strconv_uint64pow10 = powI) (m : Mc) (s : Sta) (a : Ac) (h : decide ((s.mode.size : Int) > 40) = true ∨ decide ((a.kind.size : Int) > 40) = true) :
    Cs gl n_nacellelaw05_ControlMachines up [m.iv, s.iv, a.iv] (.bool true) up := by
  have hA := fun up => c_awake (gl := gl) up hk hg
  refine mk h_nacellelaw05_ControlMachines rfl rfl ?_
  cases ql : decide ((s.mode.size : Int) > 40) with
  | true =>
    conv => whnf
    split
    rotate_left
    · rename_i h
      exact Bool.noConfusion ((ql).symm.trans h)
    rename_i hN
    clear hN
    conv => whnf
    repeat first
      | (refine DRAW.seek ?_; repeat (first | refine TRYD.take ?_ | refine TRYD.next ?_); conv => whnf)
      | (refine HOLD.mk (by first | exact trivial | exact ⟨⟨rfl, rfl⟩, trivial⟩ | exact ⟨⟨rfl, rfl⟩, ⟨rfl, rfl⟩, trivial⟩) ?_; (conv => whnf))
      | (refine CALL0.by (hA ..) rfl ?_; conv => whnf)
      | (refine CALLQ.mk _ _ _ (leL_refl _) (hA ..) rfl ?_; conv => whnf)
    exact ⟨rfl, rfl⟩
  | false =>
    have q := h.resolve_left (by rw [ql]; nofun)
    conv => whnf
    split
    · rename_i h
      exact Bool.noConfusion ((ql).symm.trans h)
    rename_i hN
    clear hN
    conv => whnf
    split
    rotate_left
    · rename_i h
      exact Bool.noConfusion ((q).symm.trans h)
    rename_i hN
    clear hN
    conv => whnf
    repeat first
      | (refine DRAW.seek ?_; repeat (first | refine TRYD.take ?_ | refine TRYD.next ?_); conv => whnf)
      | (refine HOLD.mk (by first | exact trivial | exact ⟨⟨rfl, rfl⟩, trivial⟩ | exact ⟨⟨rfl, rfl⟩, ⟨rfl, rfl⟩, trivial⟩) ?_; (conv => whnf))
      | (refine CALL0.by (hA ..) rfl ?_; conv => whnf)
      | (refine CALLQ.mk _ _ _ (leL_refl _) (hA ..) rfl ?_; conv => whnf)
    exact ⟨rfl, rfl⟩


/-- What is read behind each call. -/
def lvMach : List (Nat × List Nat) := [(21, [3, 4, 5, 6, 7, 8, 9, 10, 21]), (24, [3, 4, 5, 6, 7, 8, 9, 10, 24]), (25, [3, 4, 5, 6, 7, 8, 9, 10, 25]), (29, [3, 4, 5, 6, 7, 8, 9, 10, 29]), (33, [3, 4, 5, 6, 7, 8, 9, 10, 33]), (34, [3, 4, 5, 6, 7, 8, 9, 10, 34]), (35, [3, 4, 5, 6, 7, 8, 9, 10, 34, 35]), (36, [3, 4, 5, 6, 7, 8, 9, 10, 36]), (39, [3, 4, 5, 6, 7, 8, 9, 10, 37, 39]), (40, [3, 4, 5, 6, 7, 8, 9, 10, 37, 40]), (46, [3, 4, 5, 6, 7, 8, 9, 10, 44, 46]), (48, [3, 4, 5, 6, 7, 8, 9, 10, 44, 46, 48]), (49, [3, 4, 5, 6, 7, 8, 9, 10, 44, 49]), (52, [3, 5, 6, 7, 8, 9, 10, 44, 49, 52]), (57, [3, 5, 6, 7, 8, 9, 10, 55, 57]), (59, [3, 5, 6, 7, 8, 9, 10, 55, 59]), (62, [6, 7, 8, 9, 10, 55, 59, 62]), (76, [6, 75, 76])]
set_option maxHeartbeats 16000000 in
theorem machines_bad (up : List Ces) (hk : gl g_control_kinds = kindsI) (hg : gl g_internal_strconv_uint64pow10 = powI) (m : Mc) (s : Sta) (a : Ac) (ql : decide ((s.mode.size : Int) > 40) = false) (qk : decide ((a.kind.size : Int) > 40) = false) (he : m.err ≠ 0) :
    Cs gl n_nacellelaw05_ControlMachines up [m.iv, s.iv, a.iv] (.bool true) up := by
  have hA := fun up => c_awake (gl := gl) up hk hg
  have hKi := fun up => c_Kinds (gl := gl) up hk
  have hrK := fun up => (c_rKinds (gl := gl) up).res (r' := .lst none 1 6 fun i => [.str (kindsL.getD i ByteArray.empty)]) ⟨.inl rfl, rfl, rfl, fun i hi => kindsF_at i hi⟩
  have hSW := fun up => c_rSameWords (gl := gl) up 6 6 (by decide) (fun i => kindsL.getD i ByteArray.empty) (fun i => kindsL.getD i ByteArray.empty)
  rw [sameWd_refl] at hSW
  have hBe := fun up => c_Begin (gl := gl) up m
  have hM := fun up => c_rMachine (gl := gl) up m
  have hCM := fun up => c_CheckMachine (gl := gl) up m
  have hS := fun up => c_CheckState (gl := gl) up m s
  have hrS := fun up => c_rState (gl := gl) up m s
  have hAc := fun up => c_CheckAct (gl := gl) up hk m a
  have hrA := fun up => c_rAct (gl := gl) up m a
  obtain ⟨E1, hE1⟩ : ∃ E, E = s.err m := ⟨_, rfl⟩
  obtain ⟨E2, hE2⟩ : ∃ E, E = a.err m := ⟨_, rfl⟩
  rw [← hE1] at hS hrS
  rw [← hE2] at hAc hrA
  have e1 : (E1 == E1) = true := beq_self_eq_true _
  have e2 : (E2 == E2) = true := beq_self_eq_true _
  clear hE1 hE2
  obtain ⟨E, hE⟩ : ∃ E, E = m.err := ⟨_, rfl⟩
  have qE : (E != 0) = true := by rw [hE]; simpa using he
  have zE : (E == 0) = false := by rw [hE]; simpa using he
  have eE : (E == E) = true := beq_self_eq_true E
  obtain ⟨z, hz⟩ : ∃ z, z = ByteArray.empty := ⟨_, rfl⟩
  have ez : Sta.zero = ⟨z, 0, 0, 0, 0, 0, 0⟩ := by rw [hz]; rfl
  have nz : eqSta ⟨z, 0, 0, 0, 0, 0, 0⟩ ⟨ByteArray.empty, 0, 0, 0, 0, 0, 0⟩ = true := by rw [hz]; exact eqSta_refl _
  rw [← hE, qE, ez] at hBe
  rw [← hE] at hM hCM
  simp only [cond_true] at hBe
  clear ez hz hE he
  refine mk h_nacellelaw05_ControlMachines rfl rfl ?_
  conv => whnf
  split
  · rename_i h
    exact Bool.noConfusion ((ql).symm.trans h)
  rename_i hN
  clear hN
  conv => whnf
  split
  · rename_i h
    exact Bool.noConfusion ((qk).symm.trans h)
  rename_i hN
  clear hN
  conv => whnf
  repeat first
    | (refine DRAW.seek ?_; repeat (first | refine TRYD.take ?_ | refine TRYD.next ?_); conv => whnf)
    | (refine HOLD.mk (by first | exact trivial | exact ⟨⟨rfl, rfl⟩, trivial⟩ | exact ⟨⟨rfl, rfl⟩, ⟨rfl, rfl⟩, trivial⟩) ?_; (conv => whnf))
    | (refine CALL0.cutBy lvMach _ _ _ _ _ (leL_refl _) (c_machine ..) rfl ?_; conv => whnf)
    | (refine CALL0.by (c_machine ..) rfl ?_; conv => whnf)
    | (refine CALLQ.mk _ _ _ (leL_refl _) (c_machine ..) rfl ?_; conv => whnf)
    | (refine CALL0.cutBy lvMach _ _ _ _ _ (leL_refl _) (hBe ..) rfl ?_; conv => whnf)
    | (refine CALL0.by (hBe ..) rfl ?_; conv => whnf)
    | (refine CALLQ.mk _ _ _ (leL_refl _) (hBe ..) rfl ?_; conv => whnf)
    | (refine CALL0.cutBy lvMach _ _ _ _ _ (leL_refl _) (hM ..) rfl ?_; conv => whnf)
    | (refine CALL0.by (hM ..) rfl ?_; conv => whnf)
    | (refine CALLQ.mk _ _ _ (leL_refl _) (hM ..) rfl ?_; conv => whnf)
  split
  · rename_i h
    exact Bool.noConfusion ((zE).symm.trans h)
  rename_i hN
  clear hN
  conv => whnf
  repeat first
    | (refine DRAW.seek ?_; repeat (first | refine TRYD.take ?_ | refine TRYD.next ?_); conv => whnf)
    | (refine HOLD.mk (by first | exact trivial | exact ⟨⟨rfl, rfl⟩, trivial⟩ | exact ⟨⟨rfl, rfl⟩, ⟨rfl, rfl⟩, trivial⟩) ?_; (conv => whnf))
    | (refine CALL0.cutBy lvMach _ _ _ _ _ (leL_refl _) (hKi ..) rfl ?_; conv => whnf)
    | (refine CALL0.by (hKi ..) rfl ?_; conv => whnf)
    | (refine CALLQ.mk _ _ _ (leL_refl _) (hKi ..) rfl ?_; conv => whnf)
    | (refine CALL0.cutBy lvMach _ _ _ _ _ (leL_refl _) (hrK ..) rfl ?_; conv => whnf)
    | (refine CALL0.by (hrK ..) rfl ?_; conv => whnf)
    | (refine CALLQ.mk _ _ _ (leL_refl _) (hrK ..) rfl ?_; conv => whnf)
    | (refine CALL0.cutBy lvMach _ _ _ _ _ (leL_refl _) (hSW ..) rfl ?_; conv => whnf)
    | (refine CALL0.by (hSW ..) rfl ?_; conv => whnf)
    | (refine CALLQ.mk _ _ _ (leL_refl _) (hSW ..) rfl ?_; conv => whnf)
    | (refine CALL0.cutBy lvMach _ _ _ _ _ (leL_refl _) (c_machine ..) rfl ?_; conv => whnf)
    | (refine CALL0.by (c_machine ..) rfl ?_; conv => whnf)
    | (refine CALLQ.mk _ _ _ (leL_refl _) (c_machine ..) rfl ?_; conv => whnf)
    | (refine CALL0.cutBy lvMach _ _ _ _ _ (leL_refl _) (hCM ..) rfl ?_; conv => whnf)
    | (refine CALL0.by (hCM ..) rfl ?_; conv => whnf)
    | (refine CALLQ.mk _ _ _ (leL_refl _) (hCM ..) rfl ?_; conv => whnf)
  split
  rotate_left
  · rename_i h
    exact Bool.noConfusion ((eE).symm.trans h)
  rename_i hN
  clear hN
  conv => whnf
  repeat first
    | (refine DRAW.seek ?_; repeat (first | refine TRYD.take ?_ | refine TRYD.next ?_); conv => whnf)
    | (refine HOLD.mk (by first | exact trivial | exact ⟨⟨rfl, rfl⟩, trivial⟩ | exact ⟨⟨rfl, rfl⟩, ⟨rfl, rfl⟩, trivial⟩) ?_; (conv => whnf))
    | (refine CALL0.cutBy lvMach _ _ _ _ _ (leL_refl _) (c_machine ..) rfl ?_; conv => whnf)
    | (refine CALL0.by (c_machine ..) rfl ?_; conv => whnf)
    | (refine CALLQ.mk _ _ _ (leL_refl _) (c_machine ..) rfl ?_; conv => whnf)
    | (refine CALL0.cutBy lvMach _ _ _ _ _ (leL_refl _) (c_state ..) rfl ?_; conv => whnf)
    | (refine CALL0.by (c_state ..) rfl ?_; conv => whnf)
    | (refine CALLQ.mk _ _ _ (leL_refl _) (c_state ..) rfl ?_; conv => whnf)
    | (refine CALL0.cutBy lvMach _ _ _ _ _ (leL_refl _) (hS ..) rfl ?_; conv => whnf)
    | (refine CALL0.by (hS ..) rfl ?_; conv => whnf)
    | (refine CALLQ.mk _ _ _ (leL_refl _) (hS ..) rfl ?_; conv => whnf)
    | (refine CALL0.cutBy lvMach _ _ _ _ _ (leL_refl _) (hrS ..) rfl ?_; conv => whnf)
    | (refine CALL0.by (hrS ..) rfl ?_; conv => whnf)
    | (refine CALLQ.mk _ _ _ (leL_refl _) (hrS ..) rfl ?_; conv => whnf)
  split
  rotate_left
  · rename_i h
    exact Bool.noConfusion ((e1).symm.trans h)
  rename_i hN
  clear hN
  conv => whnf
  repeat first
    | (refine DRAW.seek ?_; repeat (first | refine TRYD.take ?_ | refine TRYD.next ?_); conv => whnf)
    | (refine HOLD.mk (by first | exact trivial | exact ⟨⟨rfl, rfl⟩, trivial⟩ | exact ⟨⟨rfl, rfl⟩, ⟨rfl, rfl⟩, trivial⟩) ?_; (conv => whnf))
    | (refine CALL0.cutBy lvMach _ _ _ _ _ (leL_refl _) (c_machine ..) rfl ?_; conv => whnf)
    | (refine CALL0.by (c_machine ..) rfl ?_; conv => whnf)
    | (refine CALLQ.mk _ _ _ (leL_refl _) (c_machine ..) rfl ?_; conv => whnf)
    | (refine CALL0.cutBy lvMach _ _ _ _ _ (leL_refl _) (hAc ..) rfl ?_; conv => whnf)
    | (refine CALL0.by (hAc ..) rfl ?_; conv => whnf)
    | (refine CALLQ.mk _ _ _ (leL_refl _) (hAc ..) rfl ?_; conv => whnf)
    | (refine CALL0.cutBy lvMach _ _ _ _ _ (leL_refl _) (hrA ..) rfl ?_; conv => whnf)
    | (refine CALL0.by (hrA ..) rfl ?_; conv => whnf)
    | (refine CALLQ.mk _ _ _ (leL_refl _) (hrA ..) rfl ?_; conv => whnf)
  split
  rotate_left
  · rename_i h
    exact Bool.noConfusion ((e2).symm.trans h)
  rename_i hN
  clear hN
  conv => whnf
  split
  rotate_left
  · rename_i h
    exact Bool.noConfusion ((nz).symm.trans h)
  rename_i hN
  clear hN
  conv => whnf
  split
  rotate_left
  · rename_i h
    exact Bool.noConfusion ((eE).symm.trans h)
  rename_i hN
  clear hN
  conv => whnf
  repeat first
    | (refine DRAW.seek ?_; repeat (first | refine TRYD.take ?_ | refine TRYD.next ?_); conv => whnf)
    | (refine HOLD.mk (by first | exact trivial | exact ⟨⟨rfl, rfl⟩, trivial⟩ | exact ⟨⟨rfl, rfl⟩, ⟨rfl, rfl⟩, trivial⟩) ?_; (conv => whnf))
    | (refine CALL0.cutBy lvMach _ _ _ _ _ (leL_refl _) (hA ..) rfl ?_; conv => whnf)
    | (refine CALL0.by (hA ..) rfl ?_; conv => whnf)
    | (refine CALLQ.mk _ _ _ (leL_refl _) (hA ..) rfl ?_; conv => whnf)
  exact ⟨rfl, rfl⟩

set_option maxHeartbeats 16000000 in
theorem machines_ok (up : List Ces) (hk : gl g_control_kinds = kindsI) (hg : gl g_internal_strconv_uint64pow10 = powI) (m : Mc) (s : Sta) (a : Ac) (ql : decide ((s.mode.size : Int) > 40) = false) (qk : decide ((a.kind.size : Int) > 40) = false) (he : m.err = 0) :
    Cs gl n_nacellelaw05_ControlMachines up [m.iv, s.iv, a.iv] (.bool true) up := by
  have hA := fun up => c_awake (gl := gl) up hk hg
  have hKi := fun up => c_Kinds (gl := gl) up hk
  have hrK := fun up => (c_rKinds (gl := gl) up).res (r' := .lst none 1 6 fun i => [.str (kindsL.getD i ByteArray.empty)]) ⟨.inl rfl, rfl, rfl, fun i hi => kindsF_at i hi⟩
  have hSW := fun up => c_rSameWords (gl := gl) up 6 6 (by decide) (fun i => kindsL.getD i ByteArray.empty) (fun i => kindsL.getD i ByteArray.empty)
  rw [sameWd_refl] at hSW
  have hBe := fun up => c_Begin (gl := gl) up m
  have hM := fun up => c_rMachine (gl := gl) up m
  have hCM := fun up => c_CheckMachine (gl := gl) up m
  have hS := fun up => c_CheckState (gl := gl) up m s
  have hrS := fun up => c_rState (gl := gl) up m s
  have hAc := fun up => c_CheckAct (gl := gl) up hk m a
  have hrA := fun up => c_rAct (gl := gl) up m a
  obtain ⟨E1, hE1⟩ : ∃ E, E = s.err m := ⟨_, rfl⟩
  obtain ⟨E2, hE2⟩ : ∃ E, E = a.err m := ⟨_, rfl⟩
  rw [← hE1] at hS hrS
  rw [← hE2] at hAc hrA
  have e1 : (E1 == E1) = true := beq_self_eq_true _
  have e2 : (E2 == E2) = true := beq_self_eq_true _
  clear hE1 hE2
  have hrB := fun up => c_rBegin (gl := gl) up m
  rw [he, show ((0 : Int) != 0) = false from rfl, cond_false, ← show beginS m = Sta.mk sIdle 0 m.fea m.fea m.fea 0 (-1) from rfl] at hBe
  obtain ⟨b, hb⟩ : ∃ b, b = beginS m := ⟨_, rfl⟩
  rw [← hb] at hBe hrB
  have eb : eqSta b b = true := eqSta_refl b
  rw [he] at hM hCM
  clear hb he
  refine mk h_nacellelaw05_ControlMachines rfl rfl ?_
  conv => whnf
  split
  · rename_i h
    exact Bool.noConfusion ((ql).symm.trans h)
  rename_i hN
  clear hN
  conv => whnf
  split
  · rename_i h
    exact Bool.noConfusion ((qk).symm.trans h)
  rename_i hN
  clear hN
  conv => whnf
  repeat first
    | (refine DRAW.seek ?_; repeat (first | refine TRYD.take ?_ | refine TRYD.next ?_); conv => whnf)
    | (refine HOLD.mk (by first | exact trivial | exact ⟨⟨rfl, rfl⟩, trivial⟩ | exact ⟨⟨rfl, rfl⟩, ⟨rfl, rfl⟩, trivial⟩) ?_; (conv => whnf))
    | (refine CALL0.cutBy lvMach _ _ _ _ _ (leL_refl _) (c_machine ..) rfl ?_; conv => whnf)
    | (refine CALL0.by (c_machine ..) rfl ?_; conv => whnf)
    | (refine CALLQ.mk _ _ _ (leL_refl _) (c_machine ..) rfl ?_; conv => whnf)
    | (refine CALL0.cutBy lvMach _ _ _ _ _ (leL_refl _) (hBe ..) rfl ?_; conv => whnf)
    | (refine CALL0.by (hBe ..) rfl ?_; conv => whnf)
    | (refine CALLQ.mk _ _ _ (leL_refl _) (hBe ..) rfl ?_; conv => whnf)
    | (refine CALL0.cutBy lvMach _ _ _ _ _ (leL_refl _) (hM ..) rfl ?_; conv => whnf)
    | (refine CALL0.by (hM ..) rfl ?_; conv => whnf)
    | (refine CALLQ.mk _ _ _ (leL_refl _) (hM ..) rfl ?_; conv => whnf)
    | (refine CALL0.cutBy lvMach _ _ _ _ _ (leL_refl _) (hrB ..) rfl ?_; conv => whnf)
    | (refine CALL0.by (hrB ..) rfl ?_; conv => whnf)
    | (refine CALLQ.mk _ _ _ (leL_refl _) (hrB ..) rfl ?_; conv => whnf)
  repeat first
    | (refine DRAW.seek ?_; repeat (first | refine TRYD.take ?_ | refine TRYD.next ?_); conv => whnf)
    | (refine HOLD.mk (by first | exact trivial | exact ⟨⟨rfl, rfl⟩, trivial⟩ | exact ⟨⟨rfl, rfl⟩, ⟨rfl, rfl⟩, trivial⟩) ?_; (conv => whnf))
    | (refine CALL0.cutBy lvMach _ _ _ _ _ (leL_refl _) (hKi ..) rfl ?_; conv => whnf)
    | (refine CALL0.by (hKi ..) rfl ?_; conv => whnf)
    | (refine CALLQ.mk _ _ _ (leL_refl _) (hKi ..) rfl ?_; conv => whnf)
    | (refine CALL0.cutBy lvMach _ _ _ _ _ (leL_refl _) (hrK ..) rfl ?_; conv => whnf)
    | (refine CALL0.by (hrK ..) rfl ?_; conv => whnf)
    | (refine CALLQ.mk _ _ _ (leL_refl _) (hrK ..) rfl ?_; conv => whnf)
    | (refine CALL0.cutBy lvMach _ _ _ _ _ (leL_refl _) (hSW ..) rfl ?_; conv => whnf)
    | (refine CALL0.by (hSW ..) rfl ?_; conv => whnf)
    | (refine CALLQ.mk _ _ _ (leL_refl _) (hSW ..) rfl ?_; conv => whnf)
    | (refine CALL0.cutBy lvMach _ _ _ _ _ (leL_refl _) (c_machine ..) rfl ?_; conv => whnf)
    | (refine CALL0.by (c_machine ..) rfl ?_; conv => whnf)
    | (refine CALLQ.mk _ _ _ (leL_refl _) (c_machine ..) rfl ?_; conv => whnf)
    | (refine CALL0.cutBy lvMach _ _ _ _ _ (leL_refl _) (hCM ..) rfl ?_; conv => whnf)
    | (refine CALL0.by (hCM ..) rfl ?_; conv => whnf)
    | (refine CALLQ.mk _ _ _ (leL_refl _) (hCM ..) rfl ?_; conv => whnf)
  repeat first
    | (refine DRAW.seek ?_; repeat (first | refine TRYD.take ?_ | refine TRYD.next ?_); conv => whnf)
    | (refine HOLD.mk (by first | exact trivial | exact ⟨⟨rfl, rfl⟩, trivial⟩ | exact ⟨⟨rfl, rfl⟩, ⟨rfl, rfl⟩, trivial⟩) ?_; (conv => whnf))
    | (refine CALL0.cutBy lvMach _ _ _ _ _ (leL_refl _) (c_machine ..) rfl ?_; conv => whnf)
    | (refine CALL0.by (c_machine ..) rfl ?_; conv => whnf)
    | (refine CALLQ.mk _ _ _ (leL_refl _) (c_machine ..) rfl ?_; conv => whnf)
    | (refine CALL0.cutBy lvMach _ _ _ _ _ (leL_refl _) (c_state ..) rfl ?_; conv => whnf)
    | (refine CALL0.by (c_state ..) rfl ?_; conv => whnf)
    | (refine CALLQ.mk _ _ _ (leL_refl _) (c_state ..) rfl ?_; conv => whnf)
    | (refine CALL0.cutBy lvMach _ _ _ _ _ (leL_refl _) (hS ..) rfl ?_; conv => whnf)
    | (refine CALL0.by (hS ..) rfl ?_; conv => whnf)
    | (refine CALLQ.mk _ _ _ (leL_refl _) (hS ..) rfl ?_; conv => whnf)
    | (refine CALL0.cutBy lvMach _ _ _ _ _ (leL_refl _) (hrS ..) rfl ?_; conv => whnf)
    | (refine CALL0.by (hrS ..) rfl ?_; conv => whnf)
    | (refine CALLQ.mk _ _ _ (leL_refl _) (hrS ..) rfl ?_; conv => whnf)
  split
  rotate_left
  · rename_i h
    exact Bool.noConfusion ((e1).symm.trans h)
  rename_i hN
  clear hN
  conv => whnf
  repeat first
    | (refine DRAW.seek ?_; repeat (first | refine TRYD.take ?_ | refine TRYD.next ?_); conv => whnf)
    | (refine HOLD.mk (by first | exact trivial | exact ⟨⟨rfl, rfl⟩, trivial⟩ | exact ⟨⟨rfl, rfl⟩, ⟨rfl, rfl⟩, trivial⟩) ?_; (conv => whnf))
    | (refine CALL0.cutBy lvMach _ _ _ _ _ (leL_refl _) (c_machine ..) rfl ?_; conv => whnf)
    | (refine CALL0.by (c_machine ..) rfl ?_; conv => whnf)
    | (refine CALLQ.mk _ _ _ (leL_refl _) (c_machine ..) rfl ?_; conv => whnf)
    | (refine CALL0.cutBy lvMach _ _ _ _ _ (leL_refl _) (hAc ..) rfl ?_; conv => whnf)
    | (refine CALL0.by (hAc ..) rfl ?_; conv => whnf)
    | (refine CALLQ.mk _ _ _ (leL_refl _) (hAc ..) rfl ?_; conv => whnf)
    | (refine CALL0.cutBy lvMach _ _ _ _ _ (leL_refl _) (hrA ..) rfl ?_; conv => whnf)
    | (refine CALL0.by (hrA ..) rfl ?_; conv => whnf)
    | (refine CALLQ.mk _ _ _ (leL_refl _) (hrA ..) rfl ?_; conv => whnf)
  split
  rotate_left
  · rename_i h
    exact Bool.noConfusion ((e2).symm.trans h)
  rename_i hN
  clear hN
  conv => whnf
  split
  rotate_left
  · rename_i h
    exact Bool.noConfusion ((eb).symm.trans h)
  rename_i hN
  clear hN
  conv => whnf
  repeat first
    | (refine DRAW.seek ?_; repeat (first | refine TRYD.take ?_ | refine TRYD.next ?_); conv => whnf)
    | (refine HOLD.mk (by first | exact trivial | exact ⟨⟨rfl, rfl⟩, trivial⟩ | exact ⟨⟨rfl, rfl⟩, ⟨rfl, rfl⟩, trivial⟩) ?_; (conv => whnf))
    | (refine CALL0.cutBy lvMach _ _ _ _ _ (leL_refl _) (hA ..) rfl ?_; conv => whnf)
    | (refine CALL0.by (hA ..) rfl ?_; conv => whnf)
    | (refine CALLQ.mk _ _ _ (leL_refl _) (hA ..) rfl ?_; conv => whnf)
  exact ⟨rfl, rfl⟩

theorem c_ControlMachines (up : List Ces) (hk : gl g_control_kinds = kindsI) (hg : gl g_internal_strconv_uint64pow10 = powI) (m : Mc) (s : Sta) (a : Ac) :
    Cs gl n_nacellelaw05_ControlMachines up [m.iv, s.iv, a.iv] (.bool true) up := by
  cases ql : decide ((s.mode.size : Int) > 40) with
  | true => exact machines_no up hk hg m s a (.inl ql)
  | false =>
  cases qk : decide ((a.kind.size : Int) > 40) with
  | true => exact machines_no up hk hg m s a (.inr qk)
  | false =>
  by_cases he : m.err = 0
  · exact machines_ok up hk hg m s a ql qk he
  · exact machines_bad up hk hg m s a ql qk he
end Go.Proofs.YtkdlegfakefjgaaGreatDoor.Ix
