/-
  Ks3: ControlActs: the law.
-/
import Derived.Test.YtkdlegfakefjgaaGreatDoorM8
namespace Go.Proofs.YtkdlegfakefjgaaGreatDoor.Ix
open Go.Proofs
set_option maxRecDepth 100000
set_option linter.unusedVariables false
set_option linter.unusedSimpArgs false
variable {gl : Nat → IV}

theorem acts_no (up : List Ces) (hk : gl g_control_kinds = kindsI) (hg : gl g_internal_strconv_uint64pow10 = powI) (m : Mc) (s : Sta) (a : Ac) (hs : m.smallB = false ∨ decide ((s.mode.size : Int) > 40) = true ∨ decide ((a.kind.size : Int) > 40) = true) :
    Cs gl n_nacellelaw05_ControlActs up [m.iv, s.iv, a.iv] (.bool true) up := by
  refine mk h_nacellelaw05_ControlActs rfl rfl ?_
  have hS := fun up => c_rSmall (gl := gl) up m
  have hA := fun up => c_awake (gl := gl) up hk hg
  cases qs : m.smallB with
  | false =>
    rw [qs] at hS
    conv => whnf
    repeat first
      | (refine DRAW.seek ?_; repeat (first | refine TRYD.take ?_ | refine TRYD.next ?_); conv => whnf)
      | (refine HOLD.mk (by first | exact trivial | exact ⟨⟨rfl, rfl⟩, trivial⟩ | exact ⟨⟨rfl, rfl⟩, ⟨rfl, rfl⟩, trivial⟩) ?_; (conv => whnf))
      | (refine CALL0.by (hS ..) rfl ?_; conv => whnf)
      | (refine CALLQ.mk _ _ _ (leL_refl _) (hS ..) rfl ?_; conv => whnf)
      | (refine CALL0.by (hA ..) rfl ?_; conv => whnf)
      | (refine CALLQ.mk _ _ _ (leL_refl _) (hA ..) rfl ?_; conv => whnf)
    exact ⟨rfl, rfl⟩
  | true =>
    rw [qs] at hS
    have hs := hs.resolve_left (by rw [qs]; nofun)
    cases ql : decide ((s.mode.size : Int) > 40) with
    | true =>
      conv => whnf
      repeat first
        | (refine DRAW.seek ?_; repeat (first | refine TRYD.take ?_ | refine TRYD.next ?_); conv => whnf)
        | (refine HOLD.mk (by first | exact trivial | exact ⟨⟨rfl, rfl⟩, trivial⟩ | exact ⟨⟨rfl, rfl⟩, ⟨rfl, rfl⟩, trivial⟩) ?_; (conv => whnf))
        | (refine CALL0.by (hS ..) rfl ?_; conv => whnf)
        | (refine CALLQ.mk _ _ _ (leL_refl _) (hS ..) rfl ?_; conv => whnf)
      split
      rotate_left
      · rename_i h
        exact Bool.noConfusion ((ql).symm.trans h)
      rename_i hN
      clear hN
      conv => whnf
      repeat first
        | (refine DRAW.seek ?_; repeat (first | refine TRYD.take ?_ | refine TRYD.next ?_); conv => whnf)
        | (refine HOLD.mk (by first | exact trivial | exact ⟨⟨rfl, rfl⟩, trivial⟩ | exact ⟨⟨rfl, rfl⟩, ⟨rfl, rfl⟩, trivial⟩) ?_; (conv => whnf))
        | (refine CALL0.by (hA ..) rfl ?_; conv => whnf)
        | (refine CALLQ.mk _ _ _ (leL_refl _) (hA ..) rfl ?_; conv => whnf)
      exact ⟨rfl, rfl⟩
    | false =>
      have q := hs.resolve_left (by rw [ql]; nofun)
      conv => whnf
      repeat first
        | (refine DRAW.seek ?_; repeat (first | refine TRYD.take ?_ | refine TRYD.next ?_); conv => whnf)
        | (refine HOLD.mk (by first | exact trivial | exact ⟨⟨rfl, rfl⟩, trivial⟩ | exact ⟨⟨rfl, rfl⟩, ⟨rfl, rfl⟩, trivial⟩) ?_; (conv => whnf))
        | (refine CALL0.by (hS ..) rfl ?_; conv => whnf)
        | (refine CALLQ.mk _ _ _ (leL_refl _) (hS ..) rfl ?_; conv => whnf)
      split
      · rename_i h
        exact Bool.noConfusion ((ql).symm.trans h)
      rename_i hN
      clear hN
      conv => whnf
      split
      rotate_left
      · rename_i h
        exact Bool.noConfusion ((q).symm.trans h)
      rename_i hN
      clear hN
      conv => whnf
      repeat first
        | (refine DRAW.seek ?_; repeat (first | refine TRYD.take ?_ | refine TRYD.next ?_); conv => whnf)
        | (refine HOLD.mk (by first | exact trivial | exact ⟨⟨rfl, rfl⟩, trivial⟩ | exact ⟨⟨rfl, rfl⟩, ⟨rfl, rfl⟩, trivial⟩) ?_; (conv => whnf))
        | (refine CALL0.by (hA ..) rfl ?_; conv => whnf)
        | (refine CALLQ.mk _ _ _ (leL_refl _) (hA ..) rfl ?_; conv => whnf)
      exact ⟨rfl, rfl⟩

/-- What is read behind each call. -/
def lvActs : List (Nat × List Nat) := [(21, [3, 4, 5, 6, 7, 8, 9, 10, 11, 21]), (35, [3, 4, 5, 6, 7, 8, 9, 10, 11, 35]), (38, [3, 4, 5, 6, 7, 8, 9, 10, 11, 38]), (40, [3, 4, 5, 6, 7, 8, 9, 10, 11, 38, 40]), (42, [3, 4, 5, 6, 7, 8, 9, 10, 11, 42]), (47, [3, 4, 5, 6, 7, 8, 9, 10, 11, 47]), (49, [3, 4, 5, 6, 7, 8, 9, 10, 11, 47, 49]), (51, [3, 4, 5, 6, 7, 8, 9, 10, 11, 51]), (56, [3, 4, 5, 6, 7, 8, 9, 10, 11, 56]), (58, [3, 4, 5, 6, 7, 8, 9, 10, 11, 56, 58]), (61, [3, 4, 5, 6, 7, 8, 9, 10, 11, 61]), (66, [3, 4, 5, 6, 7, 8, 9, 10, 11, 12, 66]), (70, [3, 4, 5, 6, 7, 8, 9, 10, 11, 12, 13, 67, 70]), (72, [3, 4, 5, 6, 7, 8, 9, 10, 11, 12, 13, 72]), (80, [3, 4, 5, 6, 7, 8, 9, 10, 11, 12, 14, 15, 16, 80]), (86, [3, 4, 5, 6, 7, 8, 9, 10, 11, 12, 14, 15, 16, 17, 18, 19, 86]), (91, [3, 4, 5, 6, 7, 8, 9, 10, 11, 12, 14, 15, 16, 17, 18, 19, 91]), (100, [6, 7, 8, 9, 10, 11, 12, 14, 15, 16, 17, 18, 19, 100]), (130, [6, 129, 130])]

set_option maxHeartbeats 16000000 in
theorem acts_bad (up : List Ces) (hk : gl g_control_kinds = kindsI) (hg : gl g_internal_strconv_uint64pow10 = powI) (m : Mc) (s : Sta) (a : Ac) (hs : m.smallB = true) (ql : decide ((s.mode.size : Int) > 40) = false) (qk : decide ((a.kind.size : Int) > 40) = false) (he : s.err m ≠ 0) :
    Cs gl n_nacellelaw05_ControlActs up [m.iv, s.iv, a.iv] (.bool true) up := by
  have hS := fun up => c_rSmall (gl := gl) up m
  rw [hs] at hS
  have hA := fun up => c_awake (gl := gl) up hk hg
  have hAl := fun up => c_Allowed (gl := gl) up hk m s a
  have hNx := fun up => c_Next (gl := gl) up hk m s a
  have hPr := fun up => c_Propose (gl := gl) up m s a.wind
  unfold nextR at hNx
  unfold proposeR at hPr
  have hSt := fun up => c_rState (gl := gl) up m s
  have hAc := fun up => c_rAct (gl := gl) up m a
  have hW := fun up => c_rWind (gl := gl) up m a.wind
  have hF := fun up f h0 h1 => c_rl2 (gl := gl) up f (s.err m) (a.err m) h0 h1
  rw [← show actE m s a = orL [s.err m, a.err m] from rfl] at hF
  obtain ⟨z, hz⟩ : ∃ z, z = ByteArray.empty := ⟨_, rfl⟩
  have ez : Sta.zero = ⟨z, 0, 0, 0, 0, 0, 0⟩ := by rw [hz]; rfl
  have ea : (Ac.mk ByteArray.empty 0 0 0 0) = ⟨z, 0, 0, 0, 0⟩ := by rw [hz]
  have nz : eqSta ⟨z, 0, 0, 0, 0, 0, 0⟩ ⟨ByteArray.empty, 0, 0, 0, 0, 0, 0⟩ = true := by rw [hz]; exact eqSta_refl _
  have na : eqAc ⟨z, 0, 0, 0, 0⟩ ⟨ByteArray.empty, 0, 0, 0, 0⟩ = true := by rw [hz]; exact eqAc_refl _
  rw [ez] at hNx
  rw [ea] at hPr
  obtain ⟨E, hE⟩ : ∃ E, E = s.err m := ⟨_, rfl⟩
  have qE : (E != 0) = true := by rw [hE]; simpa using he
  have zE : (E == 0) = false := by rw [hE]; simpa using he
  have eA : actE m s a = E := by
    unfold actE
    rw [← hE]; exact orL_ne qE
  have eP : orL [s.err m, withinS a.wind 0 m.wind] = E := by rw [← hE]; exact orL_ne qE
  rw [eA, qE] at hAl hNx
  rw [eA] at hF
  rw [eP, qE] at hPr
  rw [← hE] at hSt hF
  simp only [cond_true] at hAl hNx hPr
  have eE : (E == E) = true := beq_self_eq_true E
  clear eA eP hE he hz ez ea
  refine mk h_nacellelaw05_ControlActs rfl rfl ?_
  conv => whnf
  repeat first
    | (refine DRAW.seek ?_; repeat (first | refine TRYD.take ?_ | refine TRYD.next ?_); conv => whnf)
    | (refine HOLD.mk (by first | exact trivial | exact ⟨⟨rfl, rfl⟩, trivial⟩ | exact ⟨⟨rfl, rfl⟩, ⟨rfl, rfl⟩, trivial⟩) ?_; (conv => whnf))
    | (refine CALL0.cutBy lvActs _ _ _ _ _ (leL_refl _) (hS ..) rfl ?_; conv => whnf)
    | (refine CALL0.by (hS ..) rfl ?_; conv => whnf)
    | (refine CALLQ.mk _ _ _ (leL_refl _) (hS ..) rfl ?_; conv => whnf)
  split
  · rename_i h
    exact Bool.noConfusion ((ql).symm.trans h)
  rename_i hN
  clear hN
  conv => whnf
  split
  · rename_i h
    exact Bool.noConfusion ((qk).symm.trans h)
  rename_i hN
  clear hN
  conv => whnf
  repeat first
    | (refine DRAW.seek ?_; repeat (first | refine TRYD.take ?_ | refine TRYD.next ?_); conv => whnf)
    | (refine HOLD.mk (by first | exact trivial | exact ⟨⟨rfl, rfl⟩, trivial⟩ | exact ⟨⟨rfl, rfl⟩, ⟨rfl, rfl⟩, trivial⟩) ?_; (conv => whnf))
    | (refine CALL0.cutBy lvActs _ _ _ _ _ (leL_refl _) (c_machine ..) rfl ?_; conv => whnf)
    | (refine CALL0.by (c_machine ..) rfl ?_; conv => whnf)
    | (refine CALLQ.mk _ _ _ (leL_refl _) (c_machine ..) rfl ?_; conv => whnf)
    | (refine CALL0.cutBy lvActs _ _ _ _ _ (leL_refl _) (c_state ..) rfl ?_; conv => whnf)
    | (refine CALL0.by (c_state ..) rfl ?_; conv => whnf)
    | (refine CALLQ.mk _ _ _ (leL_refl _) (c_state ..) rfl ?_; conv => whnf)
    | (refine CALL0.cutBy lvActs _ _ _ _ _ (leL_refl _) (hAl ..) rfl ?_; conv => whnf)
    | (refine CALL0.by (hAl ..) rfl ?_; conv => whnf)
    | (refine CALLQ.mk _ _ _ (leL_refl _) (hAl ..) rfl ?_; conv => whnf)
    | (refine CALL0.cutBy lvActs _ _ _ _ _ (leL_refl _) (hNx ..) rfl ?_; conv => whnf)
    | (refine CALL0.by (hNx ..) rfl ?_; conv => whnf)
    | (refine CALLQ.mk _ _ _ (leL_refl _) (hNx ..) rfl ?_; conv => whnf)
    | (refine CALL0.cutBy lvActs _ _ _ _ _ (leL_refl _) (hPr ..) rfl ?_; conv => whnf)
    | (refine CALL0.by (hPr ..) rfl ?_; conv => whnf)
    | (refine CALLQ.mk _ _ _ (leL_refl _) (hPr ..) rfl ?_; conv => whnf)
    | (refine CALL0.cutBy lvActs _ _ _ _ _ (leL_refl _) (hSt ..) rfl ?_; conv => whnf)
    | (refine CALL0.by (hSt ..) rfl ?_; conv => whnf)
    | (refine CALLQ.mk _ _ _ (leL_refl _) (hSt ..) rfl ?_; conv => whnf)
    | (refine CALL0.cutBy lvActs _ _ _ _ _ (leL_refl _) (hAc ..) rfl ?_; conv => whnf)
    | (refine CALL0.by (hAc ..) rfl ?_; conv => whnf)
    | (refine CALLQ.mk _ _ _ (leL_refl _) (hAc ..) rfl ?_; conv => whnf)
  refine CALL0.cutBy lvActs _ _ _ _ _ (leL_refl _) (hF _ _ rfl rfl) rfl ?_
  conv => whnf
  split
  · rename_i h
    exact Bool.noConfusion ((zE).symm.trans h)
  rename_i hN
  clear hN
  conv => whnf
  split
  · rename_i h
    exact Bool.noConfusion ((zE).symm.trans h)
  rename_i hN
  clear hN
  conv => whnf
  split
  · rename_i h
    exact Bool.noConfusion ((zE).symm.trans h)
  rename_i hN
  clear hN
  conv => whnf
  split
  rotate_left
  · rename_i h
    exact Bool.noConfusion ((eE).symm.trans h)
  rename_i hN
  clear hN
  conv => whnf
  split
  rotate_left
  · rename_i h
    exact Bool.noConfusion ((nz).symm.trans h)
  rename_i hN
  clear hN
  conv => whnf
  split
  rotate_left
  · rename_i h
    exact Bool.noConfusion ((eE).symm.trans h)
  rename_i hN
  clear hN
  conv => whnf
  split
  rotate_left
  · rename_i h
    exact Bool.noConfusion ((na).symm.trans h)
  rename_i hN
  clear hN
  conv => whnf
  split
  rotate_left
  · rename_i h
    exact Bool.noConfusion ((eE).symm.trans h)
  rename_i hN
  clear hN
  conv => whnf
  repeat first
    | (refine DRAW.seek ?_; repeat (first | refine TRYD.take ?_ | refine TRYD.next ?_); conv => whnf)
    | (refine HOLD.mk (by first | exact trivial | exact ⟨⟨rfl, rfl⟩, trivial⟩ | exact ⟨⟨rfl, rfl⟩, ⟨rfl, rfl⟩, trivial⟩) ?_; (conv => whnf))
    | (refine CALL0.cutBy lvActs _ _ _ _ _ (leL_refl _) (hA ..) rfl ?_; conv => whnf)
    | (refine CALL0.by (hA ..) rfl ?_; conv => whnf)
    | (refine CALLQ.mk _ _ _ (leL_refl _) (hA ..) rfl ?_; conv => whnf)
  exact ⟨rfl, rfl⟩

set_option maxHeartbeats 16000000 in
theorem acts_act0 (up : List Ces) (hk : gl g_control_kinds = kindsI) (hg : gl g_internal_strconv_uint64pow10 = powI) (m : Mc) (s : Sta) (a : Ac) (hs : m.smallB = true) (ql : decide ((s.mode.size : Int) > 40) = false) (qk : decide ((a.kind.size : Int) > 40) = false) (he : s.err m = 0) (ha : a.err m ≠ 0) (hw : withinS a.wind 0 m.wind = 0) :
    Cs gl n_nacellelaw05_ControlActs up [m.iv, s.iv, a.iv] (.bool true) up := by
  have hS := fun up => c_rSmall (gl := gl) up m
  rw [hs] at hS
  have hA := fun up => c_awake (gl := gl) up hk hg
  have hAl := fun up => c_Allowed (gl := gl) up hk m s a
  have hNx := fun up => c_Next (gl := gl) up hk m s a
  have hPr := fun up => c_Propose (gl := gl) up m s a.wind
  unfold nextR at hNx
  unfold proposeR at hPr
  have hSt := fun up => c_rState (gl := gl) up m s
  have hAc := fun up => c_rAct (gl := gl) up m a
  have hW := fun up => c_rWind (gl := gl) up m a.wind
  have hF := fun up f h0 h1 => c_rl2 (gl := gl) up f (s.err m) (a.err m) h0 h1
  rw [← show actE m s a = orL [s.err m, a.err m] from rfl] at hF
  obtain ⟨z, hz⟩ : ∃ z, z = ByteArray.empty := ⟨_, rfl⟩
  have ez : Sta.zero = ⟨z, 0, 0, 0, 0, 0, 0⟩ := by rw [hz]; rfl
  have ea : (Ac.mk ByteArray.empty 0 0 0 0) = ⟨z, 0, 0, 0, 0⟩ := by rw [hz]
  have nz : eqSta ⟨z, 0, 0, 0, 0, 0, 0⟩ ⟨ByteArray.empty, 0, 0, 0, 0, 0, 0⟩ = true := by rw [hz]; exact eqSta_refl _
  have na : eqAc ⟨z, 0, 0, 0, 0⟩ ⟨ByteArray.empty, 0, 0, 0, 0⟩ = true := by rw [hz]; exact eqAc_refl _
  rw [ez] at hNx
  rw [ea] at hPr
  obtain ⟨hm, hr, hl, hst, htor, hkn, hft⟩ := Sta.err_rng he
  have hlim := hm.lim
  have hsp : s.speed ≤ 10000 := by omega
  rw [he] at hSt hPr
  rw [orL_0, show orL [withinS a.wind 0 m.wind] = withinS a.wind 0 m.wind from orE_right _] at hPr
  obtain ⟨E, hE⟩ : ∃ E, E = a.err m := ⟨_, rfl⟩
  have qE : (E != 0) = true := by rw [hE]; simpa using ha
  have zE : (E == 0) = false := by rw [hE]; simpa using ha
  have eA : actE m s a = E := by
    unfold actE
    rw [he, ← hE, orL_0]; exact orE_right _
  rw [eA, qE] at hAl hNx
  rw [eA, he] at hF
  rw [← hE] at hAc hF
  simp only [cond_true] at hAl hNx
  have eE : (E == E) = true := beq_self_eq_true E
  have hrP := fun up => c_rPropose (gl := gl) up m s a.wind hm hr hsp hst (withinS_zero.1 hw)
  rw [hw] at hPr hW
  simp only [bne_self_eq_false, cond_false] at hPr
  obtain ⟨x, hx⟩ : ∃ x, x = s.proposeW m a.wind := ⟨_, rfl⟩
  rw [← hx] at hPr hrP
  have ex : eqAc x x = true := eqAc_refl x
  clear eA hE he hz ez ea hx
  refine mk h_nacellelaw05_ControlActs rfl rfl ?_
  conv => whnf
  repeat first
    | (refine DRAW.seek ?_; repeat (first | refine TRYD.take ?_ | refine TRYD.next ?_); conv => whnf)
    | (refine HOLD.mk (by first | exact trivial | exact ⟨⟨rfl, rfl⟩, trivial⟩ | exact ⟨⟨rfl, rfl⟩, ⟨rfl, rfl⟩, trivial⟩) ?_; (conv => whnf))
    | (refine CALL0.cutBy lvActs _ _ _ _ _ (leL_refl _) (hS ..) rfl ?_; conv => whnf)
    | (refine CALL0.by (hS ..) rfl ?_; conv => whnf)
    | (refine CALLQ.mk _ _ _ (leL_refl _) (hS ..) rfl ?_; conv => whnf)
  split
  · rename_i h
    exact Bool.noConfusion ((ql).symm.trans h)
  rename_i hN
  clear hN
  conv => whnf
  split
  · rename_i h
    exact Bool.noConfusion ((qk).symm.trans h)
  rename_i hN
  clear hN
  conv => whnf
  repeat first
    | (refine DRAW.seek ?_; repeat (first | refine TRYD.take ?_ | refine TRYD.next ?_); conv => whnf)
    | (refine HOLD.mk (by first | exact trivial | exact ⟨⟨rfl, rfl⟩, trivial⟩ | exact ⟨⟨rfl, rfl⟩, ⟨rfl, rfl⟩, trivial⟩) ?_; (conv => whnf))
    | (refine CALL0.cutBy lvActs _ _ _ _ _ (leL_refl _) (c_machine ..) rfl ?_; conv => whnf)
    | (refine CALL0.by (c_machine ..) rfl ?_; conv => whnf)
    | (refine CALLQ.mk _ _ _ (leL_refl _) (c_machine ..) rfl ?_; conv => whnf)
    | (refine CALL0.cutBy lvActs _ _ _ _ _ (leL_refl _) (c_state ..) rfl ?_; conv => whnf)
    | (refine CALL0.by (c_state ..) rfl ?_; conv => whnf)
    | (refine CALLQ.mk _ _ _ (leL_refl _) (c_state ..) rfl ?_; conv => whnf)
    | (refine CALL0.cutBy lvActs _ _ _ _ _ (leL_refl _) (hAl ..) rfl ?_; conv => whnf)
    | (refine CALL0.by (hAl ..) rfl ?_; conv => whnf)
    | (refine CALLQ.mk _ _ _ (leL_refl _) (hAl ..) rfl ?_; conv => whnf)
    | (refine CALL0.cutBy lvActs _ _ _ _ _ (leL_refl _) (hNx ..) rfl ?_; conv => whnf)
    | (refine CALL0.by (hNx ..) rfl ?_; conv => whnf)
    | (refine CALLQ.mk _ _ _ (leL_refl _) (hNx ..) rfl ?_; conv => whnf)
    | (refine CALL0.cutBy lvActs _ _ _ _ _ (leL_refl _) (hPr ..) rfl ?_; conv => whnf)
    | (refine CALL0.by (hPr ..) rfl ?_; conv => whnf)
    | (refine CALLQ.mk _ _ _ (leL_refl _) (hPr ..) rfl ?_; conv => whnf)
    | (refine CALL0.cutBy lvActs _ _ _ _ _ (leL_refl _) (hSt ..) rfl ?_; conv => whnf)
    | (refine CALL0.by (hSt ..) rfl ?_; conv => whnf)
    | (refine CALLQ.mk _ _ _ (leL_refl _) (hSt ..) rfl ?_; conv => whnf)
    | (refine CALL0.cutBy lvActs _ _ _ _ _ (leL_refl _) (hAc ..) rfl ?_; conv => whnf)
    | (refine CALL0.by (hAc ..) rfl ?_; conv => whnf)
    | (refine CALLQ.mk _ _ _ (leL_refl _) (hAc ..) rfl ?_; conv => whnf)
  refine CALL0.cutBy lvActs _ _ _ _ _ (leL_refl _) (hF _ _ rfl rfl) rfl ?_
  conv => whnf
  repeat first
    | (refine DRAW.seek ?_; repeat (first | refine TRYD.take ?_ | refine TRYD.next ?_); conv => whnf)
    | (refine HOLD.mk (by first | exact trivial | exact ⟨⟨rfl, rfl⟩, trivial⟩ | exact ⟨⟨rfl, rfl⟩, ⟨rfl, rfl⟩, trivial⟩) ?_; (conv => whnf))
    | (refine CALL0.cutBy lvActs _ _ _ _ _ (leL_refl _) (hW ..) rfl ?_; conv => whnf)
    | (refine CALL0.by (hW ..) rfl ?_; conv => whnf)
    | (refine CALLQ.mk _ _ _ (leL_refl _) (hW ..) rfl ?_; conv => whnf)
  split
  · rename_i h
    exact Bool.noConfusion ((zE).symm.trans h)
  rename_i hN
  clear hN
  conv => whnf
  repeat first
    | (refine DRAW.seek ?_; repeat (first | refine TRYD.take ?_ | refine TRYD.next ?_); conv => whnf)
    | (refine HOLD.mk (by first | exact trivial | exact ⟨⟨rfl, rfl⟩, trivial⟩ | exact ⟨⟨rfl, rfl⟩, ⟨rfl, rfl⟩, trivial⟩) ?_; (conv => whnf))
    | (refine CALL0.cutBy lvActs _ _ _ _ _ (leL_refl _) (hrP ..) rfl ?_; conv => whnf)
    | (refine CALL0.by (hrP ..) rfl ?_; conv => whnf)
    | (refine CALLQ.mk _ _ _ (leL_refl _) (hrP ..) rfl ?_; conv => whnf)
  split
  rotate_left
  · rename_i h
    exact Bool.noConfusion ((eE).symm.trans h)
  rename_i hN
  clear hN
  conv => whnf
  split
  rotate_left
  · rename_i h
    exact Bool.noConfusion ((nz).symm.trans h)
  rename_i hN
  clear hN
  conv => whnf
  split
  rotate_left
  · rename_i h
    exact Bool.noConfusion ((eE).symm.trans h)
  rename_i hN
  clear hN
  conv => whnf
  split
  rotate_left
  · rename_i h
    exact Bool.noConfusion ((ex).symm.trans h)
  rename_i hN
  clear hN
  conv => whnf
  repeat first
    | (refine DRAW.seek ?_; repeat (first | refine TRYD.take ?_ | refine TRYD.next ?_); conv => whnf)
    | (refine HOLD.mk (by first | exact trivial | exact ⟨⟨rfl, rfl⟩, trivial⟩ | exact ⟨⟨rfl, rfl⟩, ⟨rfl, rfl⟩, trivial⟩) ?_; (conv => whnf))
    | (refine CALL0.cutBy lvActs _ _ _ _ _ (leL_refl _) (hA ..) rfl ?_; conv => whnf)
    | (refine CALL0.by (hA ..) rfl ?_; conv => whnf)
    | (refine CALLQ.mk _ _ _ (leL_refl _) (hA ..) rfl ?_; conv => whnf)
  exact ⟨rfl, rfl⟩

set_option maxHeartbeats 16000000 in
theorem acts_act1 (up : List Ces) (hk : gl g_control_kinds = kindsI) (hg : gl g_internal_strconv_uint64pow10 = powI) (m : Mc) (s : Sta) (a : Ac) (hs : m.smallB = true) (ql : decide ((s.mode.size : Int) > 40) = false) (qk : decide ((a.kind.size : Int) > 40) = false) (he : s.err m = 0) (ha : a.err m ≠ 0) (hw : withinS a.wind 0 m.wind ≠ 0) :
    Cs gl n_nacellelaw05_ControlActs up [m.iv, s.iv, a.iv] (.bool true) up := by
  have hS := fun up => c_rSmall (gl := gl) up m
  rw [hs] at hS
  have hA := fun up => c_awake (gl := gl) up hk hg
  have hAl := fun up => c_Allowed (gl := gl) up hk m s a
  have hNx := fun up => c_Next (gl := gl) up hk m s a
  have hPr := fun up => c_Propose (gl := gl) up m s a.wind
  unfold nextR at hNx
  unfold proposeR at hPr
  have hSt := fun up => c_rState (gl := gl) up m s
  have hAc := fun up => c_rAct (gl := gl) up m a
  have hW := fun up => c_rWind (gl := gl) up m a.wind
  have hF := fun up f h0 h1 => c_rl2 (gl := gl) up f (s.err m) (a.err m) h0 h1
  rw [← show actE m s a = orL [s.err m, a.err m] from rfl] at hF
  obtain ⟨z, hz⟩ : ∃ z, z = ByteArray.empty := ⟨_, rfl⟩
  have ez : Sta.zero = ⟨z, 0, 0, 0, 0, 0, 0⟩ := by rw [hz]; rfl
  have ea : (Ac.mk ByteArray.empty 0 0 0 0) = ⟨z, 0, 0, 0, 0⟩ := by rw [hz]
  have nz : eqSta ⟨z, 0, 0, 0, 0, 0, 0⟩ ⟨ByteArray.empty, 0, 0, 0, 0, 0, 0⟩ = true := by rw [hz]; exact eqSta_refl _
  have na : eqAc ⟨z, 0, 0, 0, 0⟩ ⟨ByteArray.empty, 0, 0, 0, 0⟩ = true := by rw [hz]; exact eqAc_refl _
  rw [ez] at hNx
  rw [ea] at hPr
  obtain ⟨hm, hr, hl, hst, htor, hkn, hft⟩ := Sta.err_rng he
  have hlim := hm.lim
  have hsp : s.speed ≤ 10000 := by omega
  rw [he] at hSt hPr
  rw [orL_0, show orL [withinS a.wind 0 m.wind] = withinS a.wind 0 m.wind from orE_right _] at hPr
  obtain ⟨E, hE⟩ : ∃ E, E = a.err m := ⟨_, rfl⟩
  have qE : (E != 0) = true := by rw [hE]; simpa using ha
  have zE : (E == 0) = false := by rw [hE]; simpa using ha
  have eA : actE m s a = E := by
    unfold actE
    rw [he, ← hE, orL_0]; exact orE_right _
  rw [eA, qE] at hAl hNx
  rw [eA, he] at hF
  rw [← hE] at hAc hF
  simp only [cond_true] at hAl hNx
  have eE : (E == E) = true := beq_self_eq_true E
  obtain ⟨V, hV⟩ : ∃ V, V = withinS a.wind 0 m.wind := ⟨_, rfl⟩
  have qV : (V != 0) = true := by rw [hV]; simpa using hw
  have zV : (V == 0) = false := by rw [hV]; simpa using hw
  rw [← hV] at hPr hW
  rw [qV, cond_true] at hPr
  have eV : (V == V) = true := beq_self_eq_true V
  clear eA hE he hz ez ea hV
  refine mk h_nacellelaw05_ControlActs rfl rfl ?_
  conv => whnf
  repeat first
    | (refine DRAW.seek ?_; repeat (first | refine TRYD.take ?_ | refine TRYD.next ?_); conv => whnf)
    | (refine HOLD.mk (by first | exact trivial | exact ⟨⟨rfl, rfl⟩, trivial⟩ | exact ⟨⟨rfl, rfl⟩, ⟨rfl, rfl⟩, trivial⟩) ?_; (conv => whnf))
    | (refine CALL0.cutBy lvActs _ _ _ _ _ (leL_refl _) (hS ..) rfl ?_; conv => whnf)
    | (refine CALL0.by (hS ..) rfl ?_; conv => whnf)
    | (refine CALLQ.mk _ _ _ (leL_refl _) (hS ..) rfl ?_; conv => whnf)
  split
  · rename_i h
    exact Bool.noConfusion ((ql).symm.trans h)
  rename_i hN
  clear hN
  conv => whnf
  split
  · rename_i h
    exact Bool.noConfusion ((qk).symm.trans h)
  rename_i hN
  clear hN
  conv => whnf
  repeat first
    | (refine DRAW.seek ?_; repeat (first | refine TRYD.take ?_ | refine TRYD.next ?_); conv => whnf)
    | (refine HOLD.mk (by first | exact trivial | exact ⟨⟨rfl, rfl⟩, trivial⟩ | exact ⟨⟨rfl, rfl⟩, ⟨rfl, rfl⟩, trivial⟩) ?_; (conv => whnf))
    | (refine CALL0.cutBy lvActs _ _ _ _ _ (leL_refl _) (c_machine ..) rfl ?_; conv => whnf)
    | (refine CALL0.by (c_machine ..) rfl ?_; conv => whnf)
    | (refine CALLQ.mk _ _ _ (leL_refl _) (c_machine ..) rfl ?_; conv => whnf)
    | (refine CALL0.cutBy lvActs _ _ _ _ _ (leL_refl _) (c_state ..) rfl ?_; conv => whnf)
    | (refine CALL0.by (c_state ..) rfl ?_; conv => whnf)
    | (refine CALLQ.mk _ _ _ (leL_refl _) (c_state ..) rfl ?_; conv => whnf)
    | (refine CALL0.cutBy lvActs _ _ _ _ _ (leL_refl _) (hAl ..) rfl ?_; conv => whnf)
    | (refine CALL0.by (hAl ..) rfl ?_; conv => whnf)
    | (refine CALLQ.mk _ _ _ (leL_refl _) (hAl ..) rfl ?_; conv => whnf)
    | (refine CALL0.cutBy lvActs _ _ _ _ _ (leL_refl _) (hNx ..) rfl ?_; conv => whnf)
    | (refine CALL0.by (hNx ..) rfl ?_; conv => whnf)
    | (refine CALLQ.mk _ _ _ (leL_refl _) (hNx ..) rfl ?_; conv => whnf)
    | (refine CALL0.cutBy lvActs _ _ _ _ _ (leL_refl _) (hPr ..) rfl ?_; conv => whnf)
    | (refine CALL0.by (hPr ..) rfl ?_; conv => whnf)
    | (refine CALLQ.mk _ _ _ (leL_refl _) (hPr ..) rfl ?_; conv => whnf)
    | (refine CALL0.cutBy lvActs _ _ _ _ _ (leL_refl _) (hSt ..) rfl ?_; conv => whnf)
    | (refine CALL0.by (hSt ..) rfl ?_; conv => whnf)
    | (refine CALLQ.mk _ _ _ (leL_refl _) (hSt ..) rfl ?_; conv => whnf)
    | (refine CALL0.cutBy lvActs _ _ _ _ _ (leL_refl _) (hAc ..) rfl ?_; conv => whnf)
    | (refine CALL0.by (hAc ..) rfl ?_; conv => whnf)
    | (refine CALLQ.mk _ _ _ (leL_refl _) (hAc ..) rfl ?_; conv => whnf)
  refine CALL0.cutBy lvActs _ _ _ _ _ (leL_refl _) (hF _ _ rfl rfl) rfl ?_
  conv => whnf
  repeat first
    | (refine DRAW.seek ?_; repeat (first | refine TRYD.take ?_ | refine TRYD.next ?_); conv => whnf)
    | (refine HOLD.mk (by first | exact trivial | exact ⟨⟨rfl, rfl⟩, trivial⟩ | exact ⟨⟨rfl, rfl⟩, ⟨rfl, rfl⟩, trivial⟩) ?_; (conv => whnf))
    | (refine CALL0.cutBy lvActs _ _ _ _ _ (leL_refl _) (hW ..) rfl ?_; conv => whnf)
    | (refine CALL0.by (hW ..) rfl ?_; conv => whnf)
    | (refine CALLQ.mk _ _ _ (leL_refl _) (hW ..) rfl ?_; conv => whnf)
  split
  · rename_i h
    exact Bool.noConfusion ((zE).symm.trans h)
  rename_i hN
  clear hN
  conv => whnf
  split
  · rename_i h
    exact Bool.noConfusion ((zV).symm.trans h)
  rename_i hN
  clear hN
  conv => whnf
  split
  rotate_left
  · rename_i h
    exact Bool.noConfusion ((eE).symm.trans h)
  rename_i hN
  clear hN
  conv => whnf
  split
  rotate_left
  · rename_i h
    exact Bool.noConfusion ((nz).symm.trans h)
  rename_i hN
  clear hN
  conv => whnf
  split
  rotate_left
  · rename_i h
    exact Bool.noConfusion ((eE).symm.trans h)
  rename_i hN
  clear hN
  conv => whnf
  split
  rotate_left
  · rename_i h
    exact Bool.noConfusion ((na).symm.trans h)
  rename_i hN
  clear hN
  conv => whnf
  split
  rotate_left
  · rename_i h
    exact Bool.noConfusion ((eV).symm.trans h)
  rename_i hN
  clear hN
  conv => whnf
  repeat first
    | (refine DRAW.seek ?_; repeat (first | refine TRYD.take ?_ | refine TRYD.next ?_); conv => whnf)
    | (refine HOLD.mk (by first | exact trivial | exact ⟨⟨rfl, rfl⟩, trivial⟩ | exact ⟨⟨rfl, rfl⟩, ⟨rfl, rfl⟩, trivial⟩) ?_; (conv => whnf))
    | (refine CALL0.cutBy lvActs _ _ _ _ _ (leL_refl _) (hA ..) rfl ?_; conv => whnf)
    | (refine CALL0.by (hA ..) rfl ?_; conv => whnf)
    | (refine CALLQ.mk _ _ _ (leL_refl _) (hA ..) rfl ?_; conv => whnf)
  exact ⟨rfl, rfl⟩

set_option maxHeartbeats 16000000 in
theorem acts_ok0 (up : List Ces) (hk : gl g_control_kinds = kindsI) (hg : gl g_internal_strconv_uint64pow10 = powI) (m : Mc) (s : Sta) (a : Ac) (hs : m.smallB = true) (ql : decide ((s.mode.size : Int) > 40) = false) (qk : decide ((a.kind.size : Int) > 40) = false) (he : s.err m = 0) (ha : a.err m = 0) (hal : (s.allowedN m a != 0) = false) :
    Cs gl n_nacellelaw05_ControlActs up [m.iv, s.iv, a.iv] (.bool true) up := by
  have hS := fun up => c_rSmall (gl := gl) up m
  rw [hs] at hS
  have hA := fun up => c_awake (gl := gl) up hk hg
  have hAl := fun up => c_Allowed (gl := gl) up hk m s a
  have hNx := fun up => c_Next (gl := gl) up hk m s a
  have hPr := fun up => c_Propose (gl := gl) up m s a.wind
  unfold nextR at hNx
  unfold proposeR at hPr
  have hSt := fun up => c_rState (gl := gl) up m s
  have hAc := fun up => c_rAct (gl := gl) up m a
  have hW := fun up => c_rWind (gl := gl) up m a.wind
  have hF := fun up f h0 h1 => c_rl2 (gl := gl) up f (s.err m) (a.err m) h0 h1
  rw [← show actE m s a = orL [s.err m, a.err m] from rfl] at hF
  obtain ⟨z, hz⟩ : ∃ z, z = ByteArray.empty := ⟨_, rfl⟩
  have ez : Sta.zero = ⟨z, 0, 0, 0, 0, 0, 0⟩ := by rw [hz]; rfl
  have ea : (Ac.mk ByteArray.empty 0 0 0 0) = ⟨z, 0, 0, 0, 0⟩ := by rw [hz]
  have nz : eqSta ⟨z, 0, 0, 0, 0, 0, 0⟩ ⟨ByteArray.empty, 0, 0, 0, 0, 0, 0⟩ = true := by rw [hz]; exact eqSta_refl _
  have na : eqAc ⟨z, 0, 0, 0, 0⟩ ⟨ByteArray.empty, 0, 0, 0, 0⟩ = true := by rw [hz]; exact eqAc_refl _
  rw [ez] at hNx
  rw [ea] at hPr
  obtain ⟨hm, hr, hl, hst, htor, hkn, hft⟩ := Sta.err_rng he
  have hlim := hm.lim
  have hsp : s.speed ≤ 10000 := by omega
  rw [he] at hSt hPr
  rw [orL_0, show orL [withinS a.wind 0 m.wind] = withinS a.wind 0 m.wind from orE_right _] at hPr
  obtain ⟨_, ho, _⟩ := Ac.err_ok ha
  have hne := kind_nonempty ha
  have hw : withinS a.wind 0 m.wind = 0 := withinS_zero.2 ho.wind
  have hrP := fun up => c_rPropose (gl := gl) up m s a.wind hm hr hsp hst ho.wind
  have hrA := fun up => c_rAllowed (gl := gl) up m s a hm hr ho hne
  have hrN := fun up => c_rNext (gl := gl) up m s a hm hr ho hne
  rw [hw] at hPr hW
  simp only [bne_self_eq_false, cond_false] at hPr
  obtain ⟨x, hx⟩ : ∃ x, x = s.proposeW m a.wind := ⟨_, rfl⟩
  rw [← hx] at hPr hrP
  have ex : eqAc x x = true := eqAc_refl x
  have eA : actE m s a = 0 := by
    unfold actE
    rw [he, ha]; rfl
  rw [eA, show ((0 : Int) != 0) = false from rfl] at hAl hNx
  rw [eA, he, ha] at hF
  rw [ha] at hAc
  rw [hal] at hNx hrN
  rw [ez] at hrN
  obtain ⟨R, hR⟩ : ∃ R, R = s.allowedN m a := ⟨_, rfl⟩
  rw [← hR] at hAl hrA
  have eR : (R == R) = true := beq_self_eq_true R
  simp only [cond_true, cond_false] at hAl hNx hrN
  obtain ⟨y, hy⟩ : ∃ y, y = s.behindW m a := ⟨_, rfl⟩
  rw [← hy] at hNx hrN
  have ey : eqSta y y = true := eqSta_refl y
  clear eA he hz ez ea hx hR hal ha
  refine mk h_nacellelaw05_ControlActs rfl rfl ?_
  conv => whnf
  repeat first
    | (refine DRAW.seek ?_; repeat (first | refine TRYD.take ?_ | refine TRYD.next ?_); conv => whnf)
    | (refine HOLD.mk (by first | exact trivial | exact ⟨⟨rfl, rfl⟩, trivial⟩ | exact ⟨⟨rfl, rfl⟩, ⟨rfl, rfl⟩, trivial⟩) ?_; (conv => whnf))
    | (refine CALL0.cutBy lvActs _ _ _ _ _ (leL_refl _) (hS ..) rfl ?_; conv => whnf)
    | (refine CALL0.by (hS ..) rfl ?_; conv => whnf)
    | (refine CALLQ.mk _ _ _ (leL_refl _) (hS ..) rfl ?_; conv => whnf)
  split
  · rename_i h
    exact Bool.noConfusion ((ql).symm.trans h)
  rename_i hN
  clear hN
  conv => whnf
  split
  · rename_i h
    exact Bool.noConfusion ((qk).symm.trans h)
  rename_i hN
  clear hN
  conv => whnf
  repeat first
    | (refine DRAW.seek ?_; repeat (first | refine TRYD.take ?_ | refine TRYD.next ?_); conv => whnf)
    | (refine HOLD.mk (by first | exact trivial | exact ⟨⟨rfl, rfl⟩, trivial⟩ | exact ⟨⟨rfl, rfl⟩, ⟨rfl, rfl⟩, trivial⟩) ?_; (conv => whnf))
    | (refine CALL0.cutBy lvActs _ _ _ _ _ (leL_refl _) (c_machine ..) rfl ?_; conv => whnf)
    | (refine CALL0.by (c_machine ..) rfl ?_; conv => whnf)
    | (refine CALLQ.mk _ _ _ (leL_refl _) (c_machine ..) rfl ?_; conv => whnf)
    | (refine CALL0.cutBy lvActs _ _ _ _ _ (leL_refl _) (c_state ..) rfl ?_; conv => whnf)
    | (refine CALL0.by (c_state ..) rfl ?_; conv => whnf)
    | (refine CALLQ.mk _ _ _ (leL_refl _) (c_state ..) rfl ?_; conv => whnf)
    | (refine CALL0.cutBy lvActs _ _ _ _ _ (leL_refl _) (hAl ..) rfl ?_; conv => whnf)
    | (refine CALL0.by (hAl ..) rfl ?_; conv => whnf)
    | (refine CALLQ.mk _ _ _ (leL_refl _) (hAl ..) rfl ?_; conv => whnf)
    | (refine CALL0.cutBy lvActs _ _ _ _ _ (leL_refl _) (hNx ..) rfl ?_; conv => whnf)
    | (refine CALL0.by (hNx ..) rfl ?_; conv => whnf)
    | (refine CALLQ.mk _ _ _ (leL_refl _) (hNx ..) rfl ?_; conv => whnf)
    | (refine CALL0.cutBy lvActs _ _ _ _ _ (leL_refl _) (hPr ..) rfl ?_; conv => whnf)
    | (refine CALL0.by (hPr ..) rfl ?_; conv => whnf)
    | (refine CALLQ.mk _ _ _ (leL_refl _) (hPr ..) rfl ?_; conv => whnf)
    | (refine CALL0.cutBy lvActs _ _ _ _ _ (leL_refl _) (hSt ..) rfl ?_; conv => whnf)
    | (refine CALL0.by (hSt ..) rfl ?_; conv => whnf)
    | (refine CALLQ.mk _ _ _ (leL_refl _) (hSt ..) rfl ?_; conv => whnf)
    | (refine CALL0.cutBy lvActs _ _ _ _ _ (leL_refl _) (hAc ..) rfl ?_; conv => whnf)
    | (refine CALL0.by (hAc ..) rfl ?_; conv => whnf)
    | (refine CALLQ.mk _ _ _ (leL_refl _) (hAc ..) rfl ?_; conv => whnf)
  refine CALL0.cutBy lvActs _ _ _ _ _ (leL_refl _) (hF _ _ rfl rfl) rfl ?_
  conv => whnf
  repeat first
    | (refine DRAW.seek ?_; repeat (first | refine TRYD.take ?_ | refine TRYD.next ?_); conv => whnf)
    | (refine HOLD.mk (by first | exact trivial | exact ⟨⟨rfl, rfl⟩, trivial⟩ | exact ⟨⟨rfl, rfl⟩, ⟨rfl, rfl⟩, trivial⟩) ?_; (conv => whnf))
    | (refine CALL0.cutBy lvActs _ _ _ _ _ (leL_refl _) (hW ..) rfl ?_; conv => whnf)
    | (refine CALL0.by (hW ..) rfl ?_; conv => whnf)
    | (refine CALLQ.mk _ _ _ (leL_refl _) (hW ..) rfl ?_; conv => whnf)
  repeat first
    | (refine DRAW.seek ?_; repeat (first | refine TRYD.take ?_ | refine TRYD.next ?_); conv => whnf)
    | (refine HOLD.mk (by first | exact trivial | exact ⟨⟨rfl, rfl⟩, trivial⟩ | exact ⟨⟨rfl, rfl⟩, ⟨rfl, rfl⟩, trivial⟩) ?_; (conv => whnf))
    | (refine CALL0.cutBy lvActs _ _ _ _ _ (leL_refl _) (hrA ..) rfl ?_; conv => whnf)
    | (refine CALL0.by (hrA ..) rfl ?_; conv => whnf)
    | (refine CALLQ.mk _ _ _ (leL_refl _) (hrA ..) rfl ?_; conv => whnf)
    | (refine CALL0.cutBy lvActs _ _ _ _ _ (leL_refl _) (hrN ..) rfl ?_; conv => whnf)
    | (refine CALL0.by (hrN ..) rfl ?_; conv => whnf)
    | (refine CALLQ.mk _ _ _ (leL_refl _) (hrN ..) rfl ?_; conv => whnf)
    | (refine CALL0.cutBy lvActs _ _ _ _ _ (leL_refl _) (hrP ..) rfl ?_; conv => whnf)
    | (refine CALL0.by (hrP ..) rfl ?_; conv => whnf)
    | (refine CALLQ.mk _ _ _ (leL_refl _) (hrP ..) rfl ?_; conv => whnf)
  split
  rotate_left
  · rename_i h
    exact Bool.noConfusion ((eR).symm.trans h)
  rename_i hN
  clear hN
  conv => whnf
  split
  rotate_left
  · rename_i h
    exact Bool.noConfusion ((ey).symm.trans h)
  rename_i hN
  clear hN
  conv => whnf
  split
  rotate_left
  · rename_i h
    exact Bool.noConfusion ((ex).symm.trans h)
  rename_i hN
  clear hN
  conv => whnf
  repeat first
    | (refine DRAW.seek ?_; repeat (first | refine TRYD.take ?_ | refine TRYD.next ?_); conv => whnf)
    | (refine HOLD.mk (by first | exact trivial | exact ⟨⟨rfl, rfl⟩, trivial⟩ | exact ⟨⟨rfl, rfl⟩, ⟨rfl, rfl⟩, trivial⟩) ?_; (conv => whnf))
    | (refine CALL0.cutBy lvActs _ _ _ _ _ (leL_refl _) (hA ..) rfl ?_; conv => whnf)
    | (refine CALL0.by (hA ..) rfl ?_; conv => whnf)
    | (refine CALLQ.mk _ _ _ (leL_refl _) (hA ..) rfl ?_; conv => whnf)
  exact ⟨rfl, rfl⟩

set_option maxHeartbeats 16000000 in
theorem acts_ok1 (up : List Ces) (hk : gl g_control_kinds = kindsI) (hg : gl g_internal_strconv_uint64pow10 = powI) (m : Mc) (s : Sta) (a : Ac) (hs : m.smallB = true) (ql : decide ((s.mode.size : Int) > 40) = false) (qk : decide ((a.kind.size : Int) > 40) = false) (he : s.err m = 0) (ha : a.err m = 0) (hal : (s.allowedN m a != 0) = true) :
    Cs gl n_nacellelaw05_ControlActs up [m.iv, s.iv, a.iv] (.bool true) up := by
  have hS := fun up => c_rSmall (gl := gl) up m
  rw [hs] at hS
  have hA := fun up => c_awake (gl := gl) up hk hg
  have hAl := fun up => c_Allowed (gl := gl) up hk m s a
  have hNx := fun up => c_Next (gl := gl) up hk m s a
  have hPr := fun up => c_Propose (gl := gl) up m s a.wind
  unfold nextR at hNx
  unfold proposeR at hPr
  have hSt := fun up => c_rState (gl := gl) up m s
  have hAc := fun up => c_rAct (gl := gl) up m a
  have hW := fun up => c_rWind (gl := gl) up m a.wind
  have hF := fun up f h0 h1 => c_rl2 (gl := gl) up f (s.err m) (a.err m) h0 h1
  rw [← show actE m s a = orL [s.err m, a.err m] from rfl] at hF
  obtain ⟨z, hz⟩ : ∃ z, z = ByteArray.empty := ⟨_, rfl⟩
  have ez : Sta.zero = ⟨z, 0, 0, 0, 0, 0, 0⟩ := by rw [hz]; rfl
  have ea : (Ac.mk ByteArray.empty 0 0 0 0) = ⟨z, 0, 0, 0, 0⟩ := by rw [hz]
  have nz : eqSta ⟨z, 0, 0, 0, 0, 0, 0⟩ ⟨ByteArray.empty, 0, 0, 0, 0, 0, 0⟩ = true := by rw [hz]; exact eqSta_refl _
  have na : eqAc ⟨z, 0, 0, 0, 0⟩ ⟨ByteArray.empty, 0, 0, 0, 0⟩ = true := by rw [hz]; exact eqAc_refl _
  rw [ez] at hNx
  rw [ea] at hPr
  obtain ⟨hm, hr, hl, hst, htor, hkn, hft⟩ := Sta.err_rng he
  have hlim := hm.lim
  have hsp : s.speed ≤ 10000 := by omega
  rw [he] at hSt hPr
  rw [orL_0, show orL [withinS a.wind 0 m.wind] = withinS a.wind 0 m.wind from orE_right _] at hPr
  obtain ⟨_, ho, _⟩ := Ac.err_ok ha
  have hne := kind_nonempty ha
  have hw : withinS a.wind 0 m.wind = 0 := withinS_zero.2 ho.wind
  have hrP := fun up => c_rPropose (gl := gl) up m s a.wind hm hr hsp hst ho.wind
  have hrA := fun up => c_rAllowed (gl := gl) up m s a hm hr ho hne
  have hrN := fun up => c_rNext (gl := gl) up m s a hm hr ho hne
  rw [hw] at hPr hW
  simp only [bne_self_eq_false, cond_false] at hPr
  obtain ⟨x, hx⟩ : ∃ x, x = s.proposeW m a.wind := ⟨_, rfl⟩
  rw [← hx] at hPr hrP
  have ex : eqAc x x = true := eqAc_refl x
  have eA : actE m s a = 0 := by
    unfold actE
    rw [he, ha]; rfl
  rw [eA, show ((0 : Int) != 0) = false from rfl] at hAl hNx
  rw [eA, he, ha] at hF
  rw [ha] at hAc
  rw [hal] at hNx hrN
  rw [ez] at hrN
  obtain ⟨R, hR⟩ : ∃ R, R = s.allowedN m a := ⟨_, rfl⟩
  rw [← hR] at hAl hrA
  have eR : (R == R) = true := beq_self_eq_true R
  simp only [cond_true, cond_false] at hAl hNx hrN
  have nz2 : eqSta ⟨z, 0, 0, 0, 0, 0, 0⟩ ⟨z, 0, 0, 0, 0, 0, 0⟩ = true := eqSta_refl _
  clear eA he hz ez ea hx hR hal ha
  refine mk h_nacellelaw05_ControlActs rfl rfl ?_
  conv => whnf
  repeat first
    | (refine DRAW.seek ?_; repeat (first | refine TRYD.take ?_ | refine TRYD.next ?_); conv => whnf)
    | (refine HOLD.mk (by first | exact trivial | exact ⟨⟨rfl, rfl⟩, trivial⟩ | exact ⟨⟨rfl, rfl⟩, ⟨rfl, rfl⟩, trivial⟩) ?_; (conv => whnf))
    | (refine CALL0.cutBy lvActs _ _ _ _ _ (leL_refl _) (hS ..) rfl ?_; conv => whnf)
    | (refine CALL0.by (hS ..) rfl ?_; conv => whnf)
    | (refine CALLQ.mk _ _ _ (leL_refl _) (hS ..) rfl ?_; conv => whnf)
  split
  · rename_i h
    exact Bool.noConfusion ((ql).symm.trans h)
  rename_i hN
  clear hN
  conv => whnf
  split
  · rename_i h
    exact Bool.noConfusion ((qk).symm.trans h)
  rename_i hN
  clear hN
  conv => whnf
  repeat first
    | (refine DRAW.seek ?_; repeat (first | refine TRYD.take ?_ | refine TRYD.next ?_); conv => whnf)
    | (refine HOLD.mk (by first | exact trivial | exact ⟨⟨rfl, rfl⟩, trivial⟩ | exact ⟨⟨rfl, rfl⟩, ⟨rfl, rfl⟩, trivial⟩) ?_; (conv => whnf))
    | (refine CALL0.cutBy lvActs _ _ _ _ _ (leL_refl _) (c_machine ..) rfl ?_; conv => whnf)
    | (refine CALL0.by (c_machine ..) rfl ?_; conv => whnf)
    | (refine CALLQ.mk _ _ _ (leL_refl _) (c_machine ..) rfl ?_; conv => whnf)
    | (refine CALL0.cutBy lvActs _ _ _ _ _ (leL_refl _) (c_state ..) rfl ?_; conv => whnf)
    | (refine CALL0.by (c_state ..) rfl ?_; conv => whnf)
    | (refine CALLQ.mk _ _ _ (leL_refl _) (c_state ..) rfl ?_; conv => whnf)
    | (refine CALL0.cutBy lvActs _ _ _ _ _ (leL_refl _) (hAl ..) rfl ?_; conv => whnf)
    | (refine CALL0.by (hAl ..) rfl ?_; conv => whnf)
    | (refine CALLQ.mk _ _ _ (leL_refl _) (hAl ..) rfl ?_; conv => whnf)
    | (refine CALL0.cutBy lvActs _ _ _ _ _ (leL_refl _) (hNx ..) rfl ?_; conv => whnf)
    | (refine CALL0.by (hNx ..) rfl ?_; conv => whnf)
    | (refine CALLQ.mk _ _ _ (leL_refl _) (hNx ..) rfl ?_; conv => whnf)
    | (refine CALL0.cutBy lvActs _ _ _ _ _ (leL_refl _) (hPr ..) rfl ?_; conv => whnf)
    | (refine CALL0.by (hPr ..) rfl ?_; conv => whnf)
    | (refine CALLQ.mk _ _ _ (leL_refl _) (hPr ..) rfl ?_; conv => whnf)
    | (refine CALL0.cutBy lvActs _ _ _ _ _ (leL_refl _) (hSt ..) rfl ?_; conv => whnf)
    | (refine CALL0.by (hSt ..) rfl ?_; conv => whnf)
    | (refine CALLQ.mk _ _ _ (leL_refl _) (hSt ..) rfl ?_; conv => whnf)
    | (refine CALL0.cutBy lvActs _ _ _ _ _ (leL_refl _) (hAc ..) rfl ?_; conv => whnf)
    | (refine CALL0.by (hAc ..) rfl ?_; conv => whnf)
    | (refine CALLQ.mk _ _ _ (leL_refl _) (hAc ..) rfl ?_; conv => whnf)
  refine CALL0.cutBy lvActs _ _ _ _ _ (leL_refl _) (hF _ _ rfl rfl) rfl ?_
  conv => whnf
  repeat first
    | (refine DRAW.seek ?_; repeat (first | refine TRYD.take ?_ | refine TRYD.next ?_); conv => whnf)
    | (refine HOLD.mk (by first | exact trivial | exact ⟨⟨rfl, rfl⟩, trivial⟩ | exact ⟨⟨rfl, rfl⟩, ⟨rfl, rfl⟩, trivial⟩) ?_; (conv => whnf))
    | (refine CALL0.cutBy lvActs _ _ _ _ _ (leL_refl _) (hW ..) rfl ?_; conv => whnf)
    | (refine CALL0.by (hW ..) rfl ?_; conv => whnf)
    | (refine CALLQ.mk _ _ _ (leL_refl _) (hW ..) rfl ?_; conv => whnf)
  repeat first
    | (refine DRAW.seek ?_; repeat (first | refine TRYD.take ?_ | refine TRYD.next ?_); conv => whnf)
    | (refine HOLD.mk (by first | exact trivial | exact ⟨⟨rfl, rfl⟩, trivial⟩ | exact ⟨⟨rfl, rfl⟩, ⟨rfl, rfl⟩, trivial⟩) ?_; (conv => whnf))
    | (refine CALL0.cutBy lvActs _ _ _ _ _ (leL_refl _) (hrA ..) rfl ?_; conv => whnf)
    | (refine CALL0.by (hrA ..) rfl ?_; conv => whnf)
    | (refine CALLQ.mk _ _ _ (leL_refl _) (hrA ..) rfl ?_; conv => whnf)
    | (refine CALL0.cutBy lvActs _ _ _ _ _ (leL_refl _) (hrN ..) rfl ?_; conv => whnf)
    | (refine CALL0.by (hrN ..) rfl ?_; conv => whnf)
    | (refine CALLQ.mk _ _ _ (leL_refl _) (hrN ..) rfl ?_; conv => whnf)
    | (refine CALL0.cutBy lvActs _ _ _ _ _ (leL_refl _) (hrP ..) rfl ?_; conv => whnf)
    | (refine CALL0.by (hrP ..) rfl ?_; conv => whnf)
    | (refine CALLQ.mk _ _ _ (leL_refl _) (hrP ..) rfl ?_; conv => whnf)
  split
  rotate_left
  · rename_i h
    exact Bool.noConfusion ((eR).symm.trans h)
  rename_i hN
  clear hN
  conv => whnf
  split
  rotate_left
  · rename_i h
    exact Bool.noConfusion ((nz2).symm.trans h)
  rename_i hN
  clear hN
  conv => whnf
  split
  rotate_left
  · rename_i h
    exact Bool.noConfusion ((ex).symm.trans h)
  rename_i hN
  clear hN
  conv => whnf
  repeat first
    | (refine DRAW.seek ?_; repeat (first | refine TRYD.take ?_ | refine TRYD.next ?_); conv => whnf)
    | (refine HOLD.mk (by first | exact trivial | exact ⟨⟨rfl, rfl⟩, trivial⟩ | exact ⟨⟨rfl, rfl⟩, ⟨rfl, rfl⟩, trivial⟩) ?_; (conv => whnf))
    | (refine CALL0.cutBy lvActs _ _ _ _ _ (leL_refl _) (hA ..) rfl ?_; conv => whnf)
    | (refine CALL0.by (hA ..) rfl ?_; conv => whnf)
    | (refine CALLQ.mk _ _ _ (leL_refl _) (hA ..) rfl ?_; conv => whnf)
  exact ⟨rfl, rfl⟩

theorem c_ControlActs (up : List Ces) (hk : gl g_control_kinds = kindsI) (hg : gl g_internal_strconv_uint64pow10 = powI) (m : Mc) (s : Sta) (a : Ac) :
    Cs gl n_nacellelaw05_ControlActs up [m.iv, s.iv, a.iv] (.bool true) up := by
  cases hs : m.smallB with
  | false => exact acts_no up hk hg m s a (.inl hs)
  | true =>
  cases ql : decide ((s.mode.size : Int) > 40) with
  | true => exact acts_no up hk hg m s a (.inr (.inl ql))
  | false =>
  cases qk : decide ((a.kind.size : Int) > 40) with
  | true => exact acts_no up hk hg m s a (.inr (.inr qk))
  | false =>
  by_cases he : s.err m = 0
  rotate_left
  · exact acts_bad up hk hg m s a hs ql qk he
  by_cases ha : a.err m = 0
  rotate_left
  · by_cases hw : withinS a.wind 0 m.wind = 0
    · exact acts_act0 up hk hg m s a hs ql qk he ha hw
    · exact acts_act1 up hk hg m s a hs ql qk he ha hw
  cases hal : (s.allowedN m a != 0) with
  | false => exact acts_ok0 up hk hg m s a hs ql qk he ha hal
  | true => exact acts_ok1 up hk hg m s a hs ql qk he ha hal
end Go.Proofs.YtkdlegfakefjgaaGreatDoor.Ix
