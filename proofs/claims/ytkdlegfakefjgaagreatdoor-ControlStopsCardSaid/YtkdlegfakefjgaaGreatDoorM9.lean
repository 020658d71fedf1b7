/-
  Ks1: ControlStops: the law.
-/
import Derived.Test.YtkdlegfakefjgaaGreatDoorM8
namespace Go.Proofs.YtkdlegfakefjgaaGreatDoor.Ix
open Go.Proofs
set_option maxRecDepth 100000
set_option linter.unusedVariables false
set_option linter.unusedSimpArgs false
variable {gl : Nat → IV}

theorem stops_no (up : List Ces) (hk : gl g_control_kinds = kindsI) (hg : gl g_internal_strconv_uint64pow10 = powI) (m : Mc) (s : Sta) (a b : Int) (hs : m.smallB = false ∨ decide ((s.mode.size : Int) > 40) = true) :
    Cs gl n_nacellelaw05_ControlStops up [m.iv, s.iv, .agg [.int .i64 a, .int .i64 b]] (.bool true) up := by
  refine mk h_nacellelaw05_ControlStops rfl rfl ?_
  have hS := fun up => c_rSmall (gl := gl) up m
  have hA := fun up => c_awake (gl := gl) up hk hg
  cases qs : m.smallB with
  | false =>
    rw [qs] at hS
    conv => whnf
    repeat first
      | (refine DRAW.seek ?_; repeat (first | refine TRYD.take ?_ | refine TRYD.next ?_); conv => whnf)
      | (refine HOLD.mk (by first | exact trivial | exact ⟨⟨rfl, rfl⟩, trivial⟩ | exact ⟨⟨rfl, rfl⟩, ⟨rfl, rfl⟩, trivial⟩) ?_; (conv => whnf))
      | (refine CALL0.by (hS ..) rfl ?_; conv => whnf)
      | (refine CALLQ.mk _ _ _ (leL_refl _) (hS ..) rfl ?_; conv => whnf)
      | (refine CALL0.by (hA ..) rfl ?_; conv => whnf)
      | (refine CALLQ.mk _ _ _ (leL_refl _) (hA ..) rfl ?_; conv => whnf)
    exact ⟨rfl, rfl⟩
  | true =>
    rw [qs] at hS
    have q := hs.resolve_left (by rw [qs]; nofun)
    conv => whnf
    repeat first
      | (refine DRAW.seek ?_; repeat (first | refine TRYD.take ?_ | refine TRYD.next ?_); conv => whnf)
      | (refine HOLD.mk (by first | exact trivial | exact ⟨⟨rfl, rfl⟩, trivial⟩ | exact ⟨⟨rfl, rfl⟩, ⟨rfl, rfl⟩, trivial⟩) ?_; (conv => whnf))
      | (refine CALL0.by (hS ..) rfl ?_; conv => whnf)
      | (refine CALLQ.mk _ _ _ (leL_refl _) (hS ..) rfl ?_; conv => whnf)
    split
    rotate_left
    · rename_i h
      exact Bool.noConfusion ((q).symm.trans h)
    rename_i hN
    clear hN
    conv => whnf
    repeat first
      | (refine DRAW.seek ?_; repeat (first | refine TRYD.take ?_ | refine TRYD.next ?_); conv => whnf)
      | (refine HOLD.mk (by first | exact trivial | exact ⟨⟨rfl, rfl⟩, trivial⟩ | exact ⟨⟨rfl, rfl⟩, ⟨rfl, rfl⟩, trivial⟩) ?_; (conv => whnf))
      | (refine CALL0.by (hA ..) rfl ?_; conv => whnf)
      | (refine CALLQ.mk _ _ _ (leL_refl _) (hA ..) rfl ?_; conv => whnf)
    exact ⟨rfl, rfl⟩

/-- What is read behind each call. -/
def lvStops : List (Nat × List Nat) := [(26, [3, 4, 5, 6, 7, 8, 9, 10, 11, 26]), (34, [3, 4, 5, 6, 7, 8, 9, 10, 11, 34]), (37, [3, 4, 5, 6, 7, 8, 9, 10, 11, 37]), (39, [3, 4, 5, 6, 7, 8, 9, 10, 11, 37, 39]), (44, [3, 4, 5, 6, 7, 8, 9, 10, 11, 44]), (49, [3, 4, 5, 6, 7, 8, 9, 10, 11, 49]), (51, [3, 4, 5, 6, 7, 8, 9, 10, 11, 49, 51]), (54, [3, 4, 5, 6, 7, 8, 9, 10, 11, 54]), (59, [3, 4, 5, 6, 7, 8, 9, 10, 11, 59]), (61, [3, 4, 5, 6, 7, 8, 9, 10, 11, 59, 61]), (64, [3, 4, 5, 6, 7, 8, 9, 10, 11, 64]), (70, [3, 4, 5, 6, 7, 8, 9, 10, 11, 12, 13, 70]), (72, [3, 4, 5, 6, 7, 8, 9, 10, 11, 12, 13, 70, 72]), (73, [3, 4, 5, 6, 7, 8, 9, 10, 11, 12, 13, 73]), (78, [3, 4, 5, 6, 7, 8, 9, 10, 11, 12, 13, 14, 15, 78]), (85, [3, 4, 5, 6, 7, 8, 9, 10, 11, 12, 13, 14, 15, 16, 17, 85]), (88, [3, 4, 5, 6, 7, 8, 9, 10, 11, 12, 13, 14, 15, 16, 17, 85, 88]), (90, [3, 4, 5, 6, 7, 8, 9, 10, 11, 12, 13, 14, 15, 16, 17, 90]), (94, [3, 4, 5, 6, 7, 8, 9, 10, 11, 12, 13, 14, 15, 16, 17, 91, 94]), (96, [3, 4, 5, 6, 7, 8, 9, 10, 11, 12, 13, 14, 15, 16, 17, 96]), (106, [3, 4, 5, 6, 7, 8, 9, 10, 11, 12, 13, 14, 15, 16, 17, 18, 19, 20, 21, 22, 23, 24, 106]), (120, [3, 4, 5, 6, 7, 8, 9, 10, 11, 12, 13, 14, 15, 16, 17, 18, 19, 20, 21, 22, 23, 24, 120]), (127, [3, 4, 6, 7, 8, 9, 10, 11, 12, 13, 14, 15, 16, 17, 18, 19, 20, 21, 22, 23, 24, 127]), (136, [6, 7, 8, 9, 10, 11, 12, 13, 14, 15, 16, 17, 18, 19, 20, 21, 22, 23, 24, 136]), (147, [6, 10, 11, 12, 13, 14, 15, 16, 18, 19, 21, 22, 23, 24, 145, 147]), (149, [6, 10, 11, 12, 13, 14, 15, 16, 18, 19, 22, 23, 24, 145, 149]), (182, [6, 181, 182])]
set_option maxHeartbeats 16000000 in
/-- A state with an error. -/
theorem stops_bad (up : List Ces) (hk : gl g_control_kinds = kindsI) (hg : gl g_internal_strconv_uint64pow10 = powI) (m : Mc) (s : Sta) (a b : Int) (hs : m.smallB = true) (ql : decide ((s.mode.size : Int) > 40) = false) (he : s.err m ≠ 0) :
    Cs gl n_nacellelaw05_ControlStops up [m.iv, s.iv, .agg [.int .i64 a, .int .i64 b]] (.bool true) up := by
  have hS := fun up => c_rSmall (gl := gl) up m
  rw [hs] at hS
  have hA := fun up => c_awake (gl := gl) up hk hg
  have hBr := fun up => c_Braked (gl := gl) up s m a b
  have hSt := fun up => c_Stop (gl := gl) up s m b 0 (fun h => absurd (err0_ok h).1 he)
  have hPk := fun up => c_Peak (gl := gl) up s m b 0 (fun h => absurd (err0_ok h).1 he)
  have hSf := fun up => c_Safe (gl := gl) up s m (fun _ => 0) (fun h => absurd h he)
  have hCS := fun up => c_rState (gl := gl) up m s
  obtain ⟨E, hE⟩ : ∃ E, E = s.err m := ⟨_, rfl⟩
  have qE : (E != 0) = true := by rw [hE]; simpa using he
  have qE2 : (E == 0) = false := by rw [hE]; simpa using he
  unfold Sta.BrakedR Sta.BrakedE at hBr
  unfold Sta.StopR Sta.err0 at hSt
  unfold Sta.peakR Sta.err0 at hPk
  unfold Sta.SafeR at hSf
  rw [← hE] at hBr hSt hPk hSf hCS
  rw [orL_ne qE, qE] at hBr hSt hPk
  rw [qE] at hSf
  simp only [cond_true] at hBr hSt hPk hSf
  have hF := fun up f h0 h1 => c_rl2 (gl := gl) up f E (withinS b (-1) 2) h0 h1
  rw [orL_ne qE] at hF
  obtain ⟨z, hz⟩ : ∃ z, z = ByteArray.empty := ⟨_, rfl⟩
  have ez : Sta.zero = ⟨z, 0, 0, 0, 0, 0, 0⟩ := by rw [hz]; rfl
  have nz : eqSta ⟨z, 0, 0, 0, 0, 0, 0⟩ ⟨ByteArray.empty, 0, 0, 0, 0, 0, 0⟩ = true := by rw [hz]; exact eqSta_refl _
  rw [ez] at hBr
  have e0 : (E == E) = true := beq_self_eq_true E
  clear ez hz hE he
  refine mk h_nacellelaw05_ControlStops rfl rfl ?_
  conv => whnf
  repeat first
    | (refine DRAW.seek ?_; repeat (first | refine TRYD.take ?_ | refine TRYD.next ?_); conv => whnf)
    | (refine HOLD.mk (by first | exact trivial | exact ⟨⟨rfl, rfl⟩, trivial⟩ | exact ⟨⟨rfl, rfl⟩, ⟨rfl, rfl⟩, trivial⟩) ?_; (conv => whnf))
    | (refine CALL0.cutBy lvStops _ _ _ _ _ (leL_refl _) (hS ..) rfl ?_; conv => whnf)
    | (refine CALL0.by (hS ..) rfl ?_; conv => whnf)
    | (refine CALLQ.mk _ _ _ (leL_refl _) (hS ..) rfl ?_; conv => whnf)
  split
  · rename_i h
    exact Bool.noConfusion ((ql).symm.trans h)
  rename_i hN
  clear hN
  conv => whnf
  repeat first
    | (refine DRAW.seek ?_; repeat (first | refine TRYD.take ?_ | refine TRYD.next ?_); conv => whnf)
    | (refine HOLD.mk (by first | exact trivial | exact ⟨⟨rfl, rfl⟩, trivial⟩ | exact ⟨⟨rfl, rfl⟩, ⟨rfl, rfl⟩, trivial⟩) ?_; (conv => whnf))
    | (refine CALL0.cutBy lvStops _ _ _ _ _ (leL_refl _) (c_machine ..) rfl ?_; conv => whnf)
    | (refine CALL0.by (c_machine ..) rfl ?_; conv => whnf)
    | (refine CALLQ.mk _ _ _ (leL_refl _) (c_machine ..) rfl ?_; conv => whnf)
    | (refine CALL0.cutBy lvStops _ _ _ _ _ (leL_refl _) (c_state ..) rfl ?_; conv => whnf)
    | (refine CALL0.by (c_state ..) rfl ?_; conv => whnf)
    | (refine CALLQ.mk _ _ _ (leL_refl _) (c_state ..) rfl ?_; conv => whnf)
    | (refine CALL0.cutBy lvStops _ _ _ _ _ (leL_refl _) (hBr ..) rfl ?_; conv => whnf)
    | (refine CALL0.by (hBr ..) rfl ?_; conv => whnf)
    | (refine CALLQ.mk _ _ _ (leL_refl _) (hBr ..) rfl ?_; conv => whnf)
    | (refine CALL0.cutBy lvStops _ _ _ _ _ (leL_refl _) (hSt ..) rfl ?_; conv => whnf)
    | (refine CALL0.by (hSt ..) rfl ?_; conv => whnf)
    | (refine CALLQ.mk _ _ _ (leL_refl _) (hSt ..) rfl ?_; conv => whnf)
    | (refine CALL0.cutBy lvStops _ _ _ _ _ (leL_refl _) (hPk ..) rfl ?_; conv => whnf)
    | (refine CALL0.by (hPk ..) rfl ?_; conv => whnf)
    | (refine CALLQ.mk _ _ _ (leL_refl _) (hPk ..) rfl ?_; conv => whnf)
    | (refine CALL0.cutBy lvStops _ _ _ _ _ (leL_refl _) (hSf ..) rfl ?_; conv => whnf)
    | (refine CALL0.by (hSf ..) rfl ?_; conv => whnf)
    | (refine CALLQ.mk _ _ _ (leL_refl _) (hSf ..) rfl ?_; conv => whnf)
    | (refine CALL0.cutBy lvStops _ _ _ _ _ (leL_refl _) (hCS ..) rfl ?_; conv => whnf)
    | (refine CALL0.by (hCS ..) rfl ?_; conv => whnf)
    | (refine CALLQ.mk _ _ _ (leL_refl _) (hCS ..) rfl ?_; conv => whnf)
  split
  · rename_i h
    exact Bool.noConfusion ((qE2).symm.trans h)
  rename_i hN
  clear hN
  conv => whnf
  repeat first
    | (refine DRAW.seek ?_; repeat (first | refine TRYD.take ?_ | refine TRYD.next ?_); conv => whnf)
    | (refine HOLD.mk (by first | exact trivial | exact ⟨⟨rfl, rfl⟩, trivial⟩ | exact ⟨⟨rfl, rfl⟩, ⟨rfl, rfl⟩, trivial⟩) ?_; (conv => whnf))
    | (refine CALL0.cutBy lvStops _ _ _ _ _ (leL_refl _) (c_rBlade ..) rfl ?_; conv => whnf)
    | (refine CALL0.by (c_rBlade ..) rfl ?_; conv => whnf)
    | (refine CALLQ.mk _ _ _ (leL_refl _) (c_rBlade ..) rfl ?_; conv => whnf)
  refine CALL0.cutBy lvStops _ _ _ _ _ (leL_refl _) (hF _ _ rfl rfl) rfl ?_
  conv => whnf
  split
  · rename_i h
    exact Bool.noConfusion ((qE2).symm.trans h)
  rename_i hN
  clear hN
  conv => whnf
  split
  · rename_i h
    exact Bool.noConfusion ((qE2).symm.trans h)
  rename_i hN
  clear hN
  conv => whnf
  split
  · rename_i h
    exact Bool.noConfusion ((qE2).symm.trans h)
  rename_i hN
  clear hN
  conv => whnf
  split
  rotate_left
  · rename_i h
    exact Bool.noConfusion ((nz).symm.trans h)
  rename_i hN
  clear hN
  conv => whnf
  split
  rotate_left
  · rename_i h
    exact Bool.noConfusion ((e0).symm.trans h)
  rename_i hN
  clear hN
  conv => whnf
  repeat first
    | (refine DRAW.seek ?_; repeat (first | refine TRYD.take ?_ | refine TRYD.next ?_); conv => whnf)
    | (refine HOLD.mk (by first | exact trivial | exact ⟨⟨rfl, rfl⟩, trivial⟩ | exact ⟨⟨rfl, rfl⟩, ⟨rfl, rfl⟩, trivial⟩) ?_; (conv => whnf))
    | (refine CALL0.cutBy lvStops _ _ _ _ _ (leL_refl _) (c_toldNil ..) rfl ?_; conv => whnf)
    | (refine CALL0.by (c_toldNil ..) rfl ?_; conv => whnf)
    | (refine CALLQ.mk _ _ _ (leL_refl _) (c_toldNil ..) rfl ?_; conv => whnf)
    | (refine CALL0.cutBy lvStops _ _ _ _ _ (leL_refl _) (c_sameNil ..) rfl ?_; conv => whnf)
    | (refine CALL0.by (c_sameNil ..) rfl ?_; conv => whnf)
    | (refine CALLQ.mk _ _ _ (leL_refl _) (c_sameNil ..) rfl ?_; conv => whnf)
  split
  rotate_left
  · rename_i h
    exact Bool.noConfusion ((e0).symm.trans h)
  rename_i hN
  clear hN
  conv => whnf
  split
  rotate_left
  · rename_i h
    exact Bool.noConfusion ((e0).symm.trans h)
  rename_i hN
  clear hN
  conv => whnf
  split
  rotate_left
  · rename_i h
    exact Bool.noConfusion ((e0).symm.trans h)
  rename_i hN
  clear hN
  conv => whnf
  repeat first
    | (refine DRAW.seek ?_; repeat (first | refine TRYD.take ?_ | refine TRYD.next ?_); conv => whnf)
    | (refine HOLD.mk (by first | exact trivial | exact ⟨⟨rfl, rfl⟩, trivial⟩ | exact ⟨⟨rfl, rfl⟩, ⟨rfl, rfl⟩, trivial⟩) ?_; (conv => whnf))
    | (refine CALL0.cutBy lvStops _ _ _ _ _ (leL_refl _) (hA ..) rfl ?_; conv => whnf)
    | (refine CALL0.by (hA ..) rfl ?_; conv => whnf)
    | (refine CALLQ.mk _ _ _ (leL_refl _) (hA ..) rfl ?_; conv => whnf)
  exact ⟨rfl, rfl⟩

set_option maxHeartbeats 16000000 in
/-- A blade that is none. -/
theorem stops_blade (up : List Ces) (hk : gl g_control_kinds = kindsI) (hg : gl g_internal_strconv_uint64pow10 = powI) (m : Mc) (s : Sta) (a b : Int) (hs : m.smallB = true) (ql : decide ((s.mode.size : Int) > 40) = false) (he : s.err m = 0) (hb : withinS b (-1) 2 ≠ 0) :
    Cs gl n_nacellelaw05_ControlStops up [m.iv, s.iv, .agg [.int .i64 a, .int .i64 b]] (.bool true) up := by
  obtain ⟨hm, hr, hl, hst, htor, hkn, hft⟩ := Sta.err_rng he
  have hlim := hm.lim
  have hsp : s.speed ≤ 10000 := by omega
  have hS := fun up => c_rSmall (gl := gl) up m
  rw [hs] at hS
  have hA := fun up => c_awake (gl := gl) up hk hg
  have hBr := fun up => c_Braked (gl := gl) up s m a b
  have hSf := fun up => c_Safe (gl := gl) up s m (fun k => s.num m k) (fun _ k hk3 => takes_num hm hr hsp (by omega) (by omega))
  have hrS := fun up => c_rSafe (gl := gl) up m s hm hr hsp
  have hCS := fun up => c_rState (gl := gl) up m s
  have hW := fun up => c_rWind (gl := gl) up m a
  have hB := fun up => c_rBlade (gl := gl) up b
  unfold Sta.SafeR at hSf
  unfold Sta.BrakedR Sta.BrakedE at hBr
  rw [he] at hSf hCS hBr
  rw [orL_0] at hBr
  rw [show ((0 : Int) != 0) = false from rfl, cond_false] at hSf
  have hF1 := fun up f h0 h1 => c_rl2 (gl := gl) up f (withinS a 0 m.wind) (withinS b (-1) 2) h0 h1
  have hF2 := fun up f h0 h1 => c_rl2 (gl := gl) up f 0 (withinS b (-1) 2) h0 h1
  rw [orL_0] at hF2
  obtain ⟨F, hF⟩ : ∃ F, F = s.safeN m := ⟨_, rfl⟩
  rw [← hF] at hrS
  replace hSf : ∀ up, Cs gl n_control_Safe up [m.iv, s.iv] (.tup [.bool F, .int .i64 0]) up := by rw [hF]; exact hSf
  have eF : (F == F) = true := beq_self_eq_true F
  obtain ⟨z, hz⟩ : ∃ z, z = ByteArray.empty := ⟨_, rfl⟩
  have ez : Sta.zero = ⟨z, 0, 0, 0, 0, 0, 0⟩ := by rw [hz]; rfl
  have nz : eqSta ⟨z, 0, 0, 0, 0, 0, 0⟩ ⟨ByteArray.empty, 0, 0, 0, 0, 0, 0⟩ = true := by rw [hz]; exact eqSta_refl _
  rw [ez] at hBr
  have h0 : s.err0 m b ≠ 0 := fun h => hb (by
    unfold Sta.err0 at h
    rw [orL_zero] at h
    exact h _ (by simp))
  have hSt := fun up => c_Stop (gl := gl) up s m b 0 (fun h => absurd h h0)
  have hPk := fun up => c_Peak (gl := gl) up s m b 0 (fun h => absurd h h0)
  unfold Sta.StopR Sta.err0 at hSt
  unfold Sta.peakR Sta.err0 at hPk
  rw [he, orL_0] at hSt hPk
  have e1 : orL [withinS b (-1) 2] = withinS b (-1) 2 := orE_right _
  rw [e1] at hSt hPk hF2
  obtain ⟨O, hO⟩ : ∃ O, O = orL [withinS a 0 m.wind, withinS b (-1) 2] := ⟨_, rfl⟩
  rw [← hO] at hBr hF1
  obtain ⟨V, hV⟩ : ∃ V, V = withinS b (-1) 2 := ⟨_, rfl⟩
  rw [← hV] at hSt hPk hF1 hF2 hB
  have nO : O ≠ 0 := fun h => hb (by
    rw [hO, orL_zero] at h
    exact h _ (by simp))
  have nV : V ≠ 0 := by rw [hV]; exact hb
  have qO : (O != 0) = true := by simpa using nO
  have qV : (V != 0) = true := by simpa using nV
  have zO : (O == 0) = false := by simpa using nO
  have zV : (V == 0) = false := by simpa using nV
  rw [qO, cond_true] at hBr
  rw [qV, cond_true] at hSt hPk
  have eO : (O == O) = true := beq_self_eq_true O
  have eV : (V == V) = true := beq_self_eq_true V
  clear hF hz ez hO hV nO nV hb h0 he
  refine mk h_nacellelaw05_ControlStops rfl rfl ?_
  conv => whnf
  repeat first
    | (refine DRAW.seek ?_; repeat (first | refine TRYD.take ?_ | refine TRYD.next ?_); conv => whnf)
    | (refine HOLD.mk (by first | exact trivial | exact ⟨⟨rfl, rfl⟩, trivial⟩ | exact ⟨⟨rfl, rfl⟩, ⟨rfl, rfl⟩, trivial⟩) ?_; (conv => whnf))
    | (refine CALL0.cutBy lvStops _ _ _ _ _ (leL_refl _) (hS ..) rfl ?_; conv => whnf)
    | (refine CALL0.by (hS ..) rfl ?_; conv => whnf)
    | (refine CALLQ.mk _ _ _ (leL_refl _) (hS ..) rfl ?_; conv => whnf)
  split
  · rename_i h
    exact Bool.noConfusion ((ql).symm.trans h)
  rename_i hN
  clear hN
  conv => whnf
  repeat first
    | (refine DRAW.seek ?_; repeat (first | refine TRYD.take ?_ | refine TRYD.next ?_); conv => whnf)
    | (refine HOLD.mk (by first | exact trivial | exact ⟨⟨rfl, rfl⟩, trivial⟩ | exact ⟨⟨rfl, rfl⟩, ⟨rfl, rfl⟩, trivial⟩) ?_; (conv => whnf))
    | (refine CALL0.cutBy lvStops _ _ _ _ _ (leL_refl _) (c_machine ..) rfl ?_; conv => whnf)
    | (refine CALL0.by (c_machine ..) rfl ?_; conv => whnf)
    | (refine CALLQ.mk _ _ _ (leL_refl _) (c_machine ..) rfl ?_; conv => whnf)
    | (refine CALL0.cutBy lvStops _ _ _ _ _ (leL_refl _) (c_state ..) rfl ?_; conv => whnf)
    | (refine CALL0.by (c_state ..) rfl ?_; conv => whnf)
    | (refine CALLQ.mk _ _ _ (leL_refl _) (c_state ..) rfl ?_; conv => whnf)
    | (refine CALL0.cutBy lvStops _ _ _ _ _ (leL_refl _) (hBr ..) rfl ?_; conv => whnf)
    | (refine CALL0.by (hBr ..) rfl ?_; conv => whnf)
    | (refine CALLQ.mk _ _ _ (leL_refl _) (hBr ..) rfl ?_; conv => whnf)
    | (refine CALL0.cutBy lvStops _ _ _ _ _ (leL_refl _) (hSt ..) rfl ?_; conv => whnf)
    | (refine CALL0.by (hSt ..) rfl ?_; conv => whnf)
    | (refine CALLQ.mk _ _ _ (leL_refl _) (hSt ..) rfl ?_; conv => whnf)
    | (refine CALL0.cutBy lvStops _ _ _ _ _ (leL_refl _) (hPk ..) rfl ?_; conv => whnf)
    | (refine CALL0.by (hPk ..) rfl ?_; conv => whnf)
    | (refine CALLQ.mk _ _ _ (leL_refl _) (hPk ..) rfl ?_; conv => whnf)
    | (refine CALL0.cutBy lvStops _ _ _ _ _ (leL_refl _) (hSf ..) rfl ?_; conv => whnf)
    | (refine CALL0.by (hSf ..) rfl ?_; conv => whnf)
    | (refine CALLQ.mk _ _ _ (leL_refl _) (hSf ..) rfl ?_; conv => whnf)
    | (refine CALL0.cutBy lvStops _ _ _ _ _ (leL_refl _) (hCS ..) rfl ?_; conv => whnf)
    | (refine CALL0.by (hCS ..) rfl ?_; conv => whnf)
    | (refine CALLQ.mk _ _ _ (leL_refl _) (hCS ..) rfl ?_; conv => whnf)
  repeat first
    | (refine DRAW.seek ?_; repeat (first | refine TRYD.take ?_ | refine TRYD.next ?_); conv => whnf)
    | (refine HOLD.mk (by first | exact trivial | exact ⟨⟨rfl, rfl⟩, trivial⟩ | exact ⟨⟨rfl, rfl⟩, ⟨rfl, rfl⟩, trivial⟩) ?_; (conv => whnf))
    | (refine CALL0.cutBy lvStops _ _ _ _ _ (leL_refl _) (hW ..) rfl ?_; conv => whnf)
    | (refine CALL0.by (hW ..) rfl ?_; conv => whnf)
    | (refine CALLQ.mk _ _ _ (leL_refl _) (hW ..) rfl ?_; conv => whnf)
    | (refine CALL0.cutBy lvStops _ _ _ _ _ (leL_refl _) (hB ..) rfl ?_; conv => whnf)
    | (refine CALL0.by (hB ..) rfl ?_; conv => whnf)
    | (refine CALLQ.mk _ _ _ (leL_refl _) (hB ..) rfl ?_; conv => whnf)
  refine CALL0.cutBy lvStops _ _ _ _ _ (leL_refl _) (hF1 _ _ rfl rfl) rfl ?_
  conv => whnf
  repeat first
    | (refine DRAW.seek ?_; repeat (first | refine TRYD.take ?_ | refine TRYD.next ?_); conv => whnf)
    | (refine HOLD.mk (by first | exact trivial | exact ⟨⟨rfl, rfl⟩, trivial⟩ | exact ⟨⟨rfl, rfl⟩, ⟨rfl, rfl⟩, trivial⟩) ?_; (conv => whnf))
    | (refine CALL0.cutBy lvStops _ _ _ _ _ (leL_refl _) (hB ..) rfl ?_; conv => whnf)
    | (refine CALL0.by (hB ..) rfl ?_; conv => whnf)
    | (refine CALLQ.mk _ _ _ (leL_refl _) (hB ..) rfl ?_; conv => whnf)
  refine CALL0.cutBy lvStops _ _ _ _ _ (leL_refl _) (hF2 _ _ rfl rfl) rfl ?_
  conv => whnf
  split
  · rename_i h
    exact Bool.noConfusion ((zO).symm.trans h)
  rename_i hN
  clear hN
  conv => whnf
  split
  · rename_i h
    exact Bool.noConfusion ((zV).symm.trans h)
  rename_i hN
  clear hN
  conv => whnf
  repeat first
    | (refine DRAW.seek ?_; repeat (first | refine TRYD.take ?_ | refine TRYD.next ?_); conv => whnf)
    | (refine HOLD.mk (by first | exact trivial | exact ⟨⟨rfl, rfl⟩, trivial⟩ | exact ⟨⟨rfl, rfl⟩, ⟨rfl, rfl⟩, trivial⟩) ?_; (conv => whnf))
    | (refine CALL0.cutBy lvStops _ _ _ _ _ (leL_refl _) (hrS ..) rfl ?_; conv => whnf)
    | (refine CALL0.by (hrS ..) rfl ?_; conv => whnf)
    | (refine CALLQ.mk _ _ _ (leL_refl _) (hrS ..) rfl ?_; conv => whnf)
  split
  rotate_left
  · rename_i h
    exact Bool.noConfusion ((nz).symm.trans h)
  rename_i hN
  clear hN
  conv => whnf
  split
  rotate_left
  · rename_i h
    exact Bool.noConfusion ((eO).symm.trans h)
  rename_i hN
  clear hN
  conv => whnf
  repeat first
    | (refine DRAW.seek ?_; repeat (first | refine TRYD.take ?_ | refine TRYD.next ?_); conv => whnf)
    | (refine HOLD.mk (by first | exact trivial | exact ⟨⟨rfl, rfl⟩, trivial⟩ | exact ⟨⟨rfl, rfl⟩, ⟨rfl, rfl⟩, trivial⟩) ?_; (conv => whnf))
    | (refine CALL0.cutBy lvStops _ _ _ _ _ (leL_refl _) (c_toldNil ..) rfl ?_; conv => whnf)
    | (refine CALL0.by (c_toldNil ..) rfl ?_; conv => whnf)
    | (refine CALLQ.mk _ _ _ (leL_refl _) (c_toldNil ..) rfl ?_; conv => whnf)
    | (refine CALL0.cutBy lvStops _ _ _ _ _ (leL_refl _) (c_sameNil ..) rfl ?_; conv => whnf)
    | (refine CALL0.by (c_sameNil ..) rfl ?_; conv => whnf)
    | (refine CALLQ.mk _ _ _ (leL_refl _) (c_sameNil ..) rfl ?_; conv => whnf)
  split
  rotate_left
  · rename_i h
    exact Bool.noConfusion ((eV).symm.trans h)
  rename_i hN
  clear hN
  conv => whnf
  split
  rotate_left
  · rename_i h
    exact Bool.noConfusion ((eV).symm.trans h)
  rename_i hN
  clear hN
  conv => whnf
  split
  rotate_left
  · rename_i h
    exact Bool.noConfusion ((eF).symm.trans h)
  rename_i hN
  clear hN
  conv => whnf
  repeat first
    | (refine DRAW.seek ?_; repeat (first | refine TRYD.take ?_ | refine TRYD.next ?_); conv => whnf)
    | (refine HOLD.mk (by first | exact trivial | exact ⟨⟨rfl, rfl⟩, trivial⟩ | exact ⟨⟨rfl, rfl⟩, ⟨rfl, rfl⟩, trivial⟩) ?_; (conv => whnf))
    | (refine CALL0.cutBy lvStops _ _ _ _ _ (leL_refl _) (hA ..) rfl ?_; conv => whnf)
    | (refine CALL0.by (hA ..) rfl ?_; conv => whnf)
    | (refine CALLQ.mk _ _ _ (leL_refl _) (hA ..) rfl ?_; conv => whnf)
  exact ⟨rfl, rfl⟩

set_option maxHeartbeats 16000000 in
theorem stops_bad0 (up : List Ces) (hk : gl g_control_kinds = kindsI) (hg : gl g_internal_strconv_uint64pow10 = powI) (m : Mc) (s : Sta) (a b : Int) (hs : m.smallB = true) (ql : decide ((s.mode.size : Int) > 40) = false) (he : s.err m = 0) (hb : withinS b (-1) 2 = 0)
    (qp : decide (s.pk m b > m.lim) = false) (ha : withinS a 0 m.wind ≠ 0) :
    Cs gl n_nacellelaw05_ControlStops up [m.iv, s.iv, .agg [.int .i64 a, .int .i64 b]] (.bool true) up := by
  obtain ⟨hm, hr, hl, hst, htor, hkn, hft⟩ := Sta.err_rng he
  have hlim := hm.lim
  have hsp : s.speed ≤ 10000 := by omega
  have hS := fun up => c_rSmall (gl := gl) up m
  rw [hs] at hS
  have hA := fun up => c_awake (gl := gl) up hk hg
  have hBr := fun up => c_Braked (gl := gl) up s m a b
  have hSf := fun up => c_Safe (gl := gl) up s m (fun k => s.num m k) (fun _ k hk3 => takes_num hm hr hsp (by omega) (by omega))
  have hrS := fun up => c_rSafe (gl := gl) up m s hm hr hsp
  have hCS := fun up => c_rState (gl := gl) up m s
  have hW := fun up => c_rWind (gl := gl) up m a
  have hB := fun up => c_rBlade (gl := gl) up b
  unfold Sta.SafeR at hSf
  unfold Sta.BrakedR Sta.BrakedE at hBr
  rw [he] at hSf hCS hBr
  rw [orL_0] at hBr
  rw [show ((0 : Int) != 0) = false from rfl, cond_false] at hSf
  have hF1 := fun up f h0 h1 => c_rl2 (gl := gl) up f (withinS a 0 m.wind) (withinS b (-1) 2) h0 h1
  have hF2 := fun up f h0 h1 => c_rl2 (gl := gl) up f 0 (withinS b (-1) 2) h0 h1
  rw [orL_0] at hF2
  obtain ⟨F, hF⟩ : ∃ F, F = s.safeN m := ⟨_, rfl⟩
  rw [← hF] at hrS
  replace hSf : ∀ up, Cs gl n_control_Safe up [m.iv, s.iv] (.tup [.bool F, .int .i64 0]) up := by rw [hF]; exact hSf
  have eF : (F == F) = true := beq_self_eq_true F
  obtain ⟨z, hz⟩ : ∃ z, z = ByteArray.empty := ⟨_, rfl⟩
  have ez : Sta.zero = ⟨z, 0, 0, 0, 0, 0, 0⟩ := by rw [hz]; rfl
  have nz : eqSta ⟨z, 0, 0, 0, 0, 0, 0⟩ ⟨ByteArray.empty, 0, 0, 0, 0, 0, 0⟩ = true := by rw [hz]; exact eqSta_refl _
  rw [ez] at hBr
  obtain ⟨b1, b2⟩ := withinS_zero.1 hb
  have ht := takes_num hm hr hsp b1 b2
  have hSt := fun up => c_Stop (gl := gl) up s m b (s.num m b) (fun _ => ht)
  have hPk := fun up => c_Peak (gl := gl) up s m b (s.num m b) (fun _ => ht)
  have hrP := fun up => c_rPeakN (gl := gl) up m s b hm hr hsp b1 b2
  have hrT := fun up => c_rStopN (gl := gl) up m s b hm hr hsp b1 b2
  unfold Sta.StopR Sta.err0 at hSt
  unfold Sta.peakR Sta.err0 at hPk
  have qp' := qp
  unfold Sta.pk at qp'
  rw [he, orL_0, hb, show (orL [0] != 0) = false from rfl, cond_false, qp', stopF_eq] at hSt
  rw [he, orL_0, hb, show (orL [0] != 0) = false from rfl, cond_false] at hPk
  rw [hb] at hF1 hF2 hB
  rw [show orL [(0 : Int)] = 0 from rfl] at hF2
  obtain ⟨p, hp⟩ : ∃ p, p = s.pk m b := ⟨_, rfl⟩
  have hp2 : s.most m b (s.num m b) = p := hp.symm
  rw [hp2] at hPk
  rw [← hp] at hrP qp
  have ep : (p == p) = true := beq_self_eq_true p
  obtain ⟨n, hn⟩ : ∃ n, n = s.num m b := ⟨_, rfl⟩
  rw [← hn] at hPk hSt hrP hrT
  have en : ((n : Int) == n) = true := beq_self_eq_true _
  have hTo := fun up => c_told (gl := gl) up (1 + n) (by omega) (s.stopS m b)
  have hSa := fun up => c_rSameStates (gl := gl) up (1 + n) (1 + n) (by omega) (s.stopS m b) (s.stopS m b)
  rw [sameSt_refl] at hSa
  simp only [cond_false] at hSt
  obtain ⟨O, hO⟩ : ∃ O, O = orL [withinS a 0 m.wind, 0] := ⟨_, rfl⟩
  have nO : O ≠ 0 := fun h => ha (by
    rw [hO, orL_zero] at h
    exact h _ (by simp))
  rw [hb, ← hO] at hBr
  rw [← hO] at hF1
  have qO : (O != 0) = true := by simpa using nO
  have zO : (O == 0) = false := by simpa using nO
  rw [qO, cond_true] at hBr
  have eO : (O == O) = true := beq_self_eq_true O
  clear nO hO
  clear hF hz ez hp hp2 hn qp' ht hb he
  refine mk h_nacellelaw05_ControlStops rfl rfl ?_
  conv => whnf
  repeat first
    | (refine DRAW.seek ?_; repeat (first | refine TRYD.take ?_ | refine TRYD.next ?_); conv => whnf)
    | (refine HOLD.mk (by first | exact trivial | exact ⟨⟨rfl, rfl⟩, trivial⟩ | exact ⟨⟨rfl, rfl⟩, ⟨rfl, rfl⟩, trivial⟩) ?_; (conv => whnf))
    | (refine CALL0.cutBy lvStops _ _ _ _ _ (leL_refl _) (hS ..) rfl ?_; conv => whnf)
    | (refine CALL0.by (hS ..) rfl ?_; conv => whnf)
    | (refine CALLQ.mk _ _ _ (leL_refl _) (hS ..) rfl ?_; conv => whnf)
  split
  · rename_i h
    exact Bool.noConfusion ((ql).symm.trans h)
  rename_i hN
  clear hN
  conv => whnf
  repeat first
    | (refine DRAW.seek ?_; repeat (first | refine TRYD.take ?_ | refine TRYD.next ?_); conv => whnf)
    | (refine HOLD.mk (by first | exact trivial | exact ⟨⟨rfl, rfl⟩, trivial⟩ | exact ⟨⟨rfl, rfl⟩, ⟨rfl, rfl⟩, trivial⟩) ?_; (conv => whnf))
    | (refine CALL0.cutBy lvStops _ _ _ _ _ (leL_refl _) (c_machine ..) rfl ?_; conv => whnf)
    | (refine CALL0.by (c_machine ..) rfl ?_; conv => whnf)
    | (refine CALLQ.mk _ _ _ (leL_refl _) (c_machine ..) rfl ?_; conv => whnf)
    | (refine CALL0.cutBy lvStops _ _ _ _ _ (leL_refl _) (c_state ..) rfl ?_; conv => whnf)
    | (refine CALL0.by (c_state ..) rfl ?_; conv => whnf)
    | (refine CALLQ.mk _ _ _ (leL_refl _) (c_state ..) rfl ?_; conv => whnf)
    | (refine CALL0.cutBy lvStops _ _ _ _ _ (leL_refl _) (hBr ..) rfl ?_; conv => whnf)
    | (refine CALL0.by (hBr ..) rfl ?_; conv => whnf)
    | (refine CALLQ.mk _ _ _ (leL_refl _) (hBr ..) rfl ?_; conv => whnf)
    | (refine CALL0.cutBy lvStops _ _ _ _ _ (leL_refl _) (hSt ..) rfl ?_; conv => whnf)
    | (refine CALL0.by (hSt ..) rfl ?_; conv => whnf)
    | (refine CALLQ.mk _ _ _ (leL_refl _) (hSt ..) rfl ?_; conv => whnf)
    | (refine CALL0.cutBy lvStops _ _ _ _ _ (leL_refl _) (hPk ..) rfl ?_; conv => whnf)
    | (refine CALL0.by (hPk ..) rfl ?_; conv => whnf)
    | (refine CALLQ.mk _ _ _ (leL_refl _) (hPk ..) rfl ?_; conv => whnf)
    | (refine CALL0.cutBy lvStops _ _ _ _ _ (leL_refl _) (hSf ..) rfl ?_; conv => whnf)
    | (refine CALL0.by (hSf ..) rfl ?_; conv => whnf)
    | (refine CALLQ.mk _ _ _ (leL_refl _) (hSf ..) rfl ?_; conv => whnf)
    | (refine CALL0.cutBy lvStops _ _ _ _ _ (leL_refl _) (hCS ..) rfl ?_; conv => whnf)
    | (refine CALL0.by (hCS ..) rfl ?_; conv => whnf)
    | (refine CALLQ.mk _ _ _ (leL_refl _) (hCS ..) rfl ?_; conv => whnf)
  repeat first
    | (refine DRAW.seek ?_; repeat (first | refine TRYD.take ?_ | refine TRYD.next ?_); conv => whnf)
    | (refine HOLD.mk (by first | exact trivial | exact ⟨⟨rfl, rfl⟩, trivial⟩ | exact ⟨⟨rfl, rfl⟩, ⟨rfl, rfl⟩, trivial⟩) ?_; (conv => whnf))
    | (refine CALL0.cutBy lvStops _ _ _ _ _ (leL_refl _) (hW ..) rfl ?_; conv => whnf)
    | (refine CALL0.by (hW ..) rfl ?_; conv => whnf)
    | (refine CALLQ.mk _ _ _ (leL_refl _) (hW ..) rfl ?_; conv => whnf)
    | (refine CALL0.cutBy lvStops _ _ _ _ _ (leL_refl _) (hB ..) rfl ?_; conv => whnf)
    | (refine CALL0.by (hB ..) rfl ?_; conv => whnf)
    | (refine CALLQ.mk _ _ _ (leL_refl _) (hB ..) rfl ?_; conv => whnf)
  refine CALL0.cutBy lvStops _ _ _ _ _ (leL_refl _) (hF1 _ _ rfl rfl) rfl ?_
  conv => whnf
  repeat first
    | (refine DRAW.seek ?_; repeat (first | refine TRYD.take ?_ | refine TRYD.next ?_); conv => whnf)
    | (refine HOLD.mk (by first | exact trivial | exact ⟨⟨rfl, rfl⟩, trivial⟩ | exact ⟨⟨rfl, rfl⟩, ⟨rfl, rfl⟩, trivial⟩) ?_; (conv => whnf))
    | (refine CALL0.cutBy lvStops _ _ _ _ _ (leL_refl _) (hB ..) rfl ?_; conv => whnf)
    | (refine CALL0.by (hB ..) rfl ?_; conv => whnf)
    | (refine CALLQ.mk _ _ _ (leL_refl _) (hB ..) rfl ?_; conv => whnf)
  refine CALL0.cutBy lvStops _ _ _ _ _ (leL_refl _) (hF2 _ _ rfl rfl) rfl ?_
  conv => whnf
  split
  · rename_i h
    exact Bool.noConfusion ((zO).symm.trans h)
  rename_i hN
  clear hN
  conv => whnf
  repeat first
    | (refine DRAW.seek ?_; repeat (first | refine TRYD.take ?_ | refine TRYD.next ?_); conv => whnf)
    | (refine HOLD.mk (by first | exact trivial | exact ⟨⟨rfl, rfl⟩, trivial⟩ | exact ⟨⟨rfl, rfl⟩, ⟨rfl, rfl⟩, trivial⟩) ?_; (conv => whnf))
    | (refine CALL0.cutBy lvStops _ _ _ _ _ (leL_refl _) (hrP ..) rfl ?_; conv => whnf)
    | (refine CALL0.by (hrP ..) rfl ?_; conv => whnf)
    | (refine CALLQ.mk _ _ _ (leL_refl _) (hrP ..) rfl ?_; conv => whnf)
    | (refine CALL0.cutBy lvStops _ _ _ _ _ (leL_refl _) (hrT ..) rfl ?_; conv => whnf)
    | (refine CALL0.by (hrT ..) rfl ?_; conv => whnf)
    | (refine CALLQ.mk _ _ _ (leL_refl _) (hrT ..) rfl ?_; conv => whnf)
  split
  · rename_i h
    exact Bool.noConfusion ((qp).symm.trans h)
  rename_i hN
  clear hN
  conv => whnf
  repeat first
    | (refine DRAW.seek ?_; repeat (first | refine TRYD.take ?_ | refine TRYD.next ?_); conv => whnf)
    | (refine HOLD.mk (by first | exact trivial | exact ⟨⟨rfl, rfl⟩, trivial⟩ | exact ⟨⟨rfl, rfl⟩, ⟨rfl, rfl⟩, trivial⟩) ?_; (conv => whnf))
    | (refine CALL0.cutBy lvStops _ _ _ _ _ (leL_refl _) (hrS ..) rfl ?_; conv => whnf)
    | (refine CALL0.by (hrS ..) rfl ?_; conv => whnf)
    | (refine CALLQ.mk _ _ _ (leL_refl _) (hrS ..) rfl ?_; conv => whnf)
  split
  rotate_left
  · rename_i h
    exact Bool.noConfusion ((nz).symm.trans h)
  rename_i hN
  clear hN
  conv => whnf
  split
  rotate_left
  · rename_i h
    exact Bool.noConfusion ((eO).symm.trans h)
  rename_i hN
  clear hN
  conv => whnf
  repeat first
    | (refine DRAW.seek ?_; repeat (first | refine TRYD.take ?_ | refine TRYD.next ?_); conv => whnf)
    | (refine HOLD.mk (by first | exact trivial | exact ⟨⟨rfl, rfl⟩, trivial⟩ | exact ⟨⟨rfl, rfl⟩, ⟨rfl, rfl⟩, trivial⟩) ?_; (conv => whnf))
    | (refine CALL0.cutBy lvStops _ _ _ _ _ (leL_refl _) (hTo ..) rfl ?_; conv => whnf)
    | (refine CALL0.by (hTo ..) rfl ?_; conv => whnf)
    | (refine CALLQ.mk _ _ _ (leL_refl _) (hTo ..) rfl ?_; conv => whnf)
    | (refine CALL0.cutBy lvStops _ _ _ _ _ (leL_refl _) (hSa ..) rfl ?_; conv => whnf)
    | (refine CALL0.by (hSa ..) rfl ?_; conv => whnf)
    | (refine CALLQ.mk _ _ _ (leL_refl _) (hSa ..) rfl ?_; conv => whnf)
  split
  rotate_left
  · rename_i h
    exact Bool.noConfusion ((ep).symm.trans h)
  rename_i hN
  clear hN
  conv => whnf
  split
  rotate_left
  · rename_i h
    exact Bool.noConfusion ((en).symm.trans h)
  rename_i hN
  clear hN
  conv => whnf
  split
  rotate_left
  · rename_i h
    exact Bool.noConfusion ((eF).symm.trans h)
  rename_i hN
  clear hN
  conv => whnf
  repeat first
    | (refine DRAW.seek ?_; repeat (first | refine TRYD.take ?_ | refine TRYD.next ?_); conv => whnf)
    | (refine HOLD.mk (by first | exact trivial | exact ⟨⟨rfl, rfl⟩, trivial⟩ | exact ⟨⟨rfl, rfl⟩, ⟨rfl, rfl⟩, trivial⟩) ?_; (conv => whnf))
    | (refine CALL0.cutBy lvStops _ _ _ _ _ (leL_refl _) (hA ..) rfl ?_; conv => whnf)
    | (refine CALL0.by (hA ..) rfl ?_; conv => whnf)
    | (refine CALLQ.mk _ _ _ (leL_refl _) (hA ..) rfl ?_; conv => whnf)
  exact ⟨rfl, rfl⟩

set_option maxHeartbeats 16000000 in
theorem stops_bad1 (up : List Ces) (hk : gl g_control_kinds = kindsI) (hg : gl g_internal_strconv_uint64pow10 = powI) (m : Mc) (s : Sta) (a b : Int) (hs : m.smallB = true) (ql : decide ((s.mode.size : Int) > 40) = false) (he : s.err m = 0) (hb : withinS b (-1) 2 = 0)
    (qp : decide (s.pk m b > m.lim) = true) (ha : withinS a 0 m.wind ≠ 0) :
    Cs gl n_nacellelaw05_ControlStops up [m.iv, s.iv, .agg [.int .i64 a, .int .i64 b]] (.bool true) up := by
  obtain ⟨hm, hr, hl, hst, htor, hkn, hft⟩ := Sta.err_rng he
  have hlim := hm.lim
  have hsp : s.speed ≤ 10000 := by omega
  have hS := fun up => c_rSmall (gl := gl) up m
  rw [hs] at hS
  have hA := fun up => c_awake (gl := gl) up hk hg
  have hBr := fun up => c_Braked (gl := gl) up s m a b
  have hSf := fun up => c_Safe (gl := gl) up s m (fun k => s.num m k) (fun _ k hk3 => takes_num hm hr hsp (by omega) (by omega))
  have hrS := fun up => c_rSafe (gl := gl) up m s hm hr hsp
  have hCS := fun up => c_rState (gl := gl) up m s
  have hW := fun up => c_rWind (gl := gl) up m a
  have hB := fun up => c_rBlade (gl := gl) up b
  unfold Sta.SafeR at hSf
  unfold Sta.BrakedR Sta.BrakedE at hBr
  rw [he] at hSf hCS hBr
  rw [orL_0] at hBr
  rw [show ((0 : Int) != 0) = false from rfl, cond_false] at hSf
  have hF1 := fun up f h0 h1 => c_rl2 (gl := gl) up f (withinS a 0 m.wind) (withinS b (-1) 2) h0 h1
  have hF2 := fun up f h0 h1 => c_rl2 (gl := gl) up f 0 (withinS b (-1) 2) h0 h1
  rw [orL_0] at hF2
  obtain ⟨F, hF⟩ : ∃ F, F = s.safeN m := ⟨_, rfl⟩
  rw [← hF] at hrS
  replace hSf : ∀ up, Cs gl n_control_Safe up [m.iv, s.iv] (.tup [.bool F, .int .i64 0]) up := by rw [hF]; exact hSf
  have eF : (F == F) = true := beq_self_eq_true F
  obtain ⟨z, hz⟩ : ∃ z, z = ByteArray.empty := ⟨_, rfl⟩
  have ez : Sta.zero = ⟨z, 0, 0, 0, 0, 0, 0⟩ := by rw [hz]; rfl
  have nz : eqSta ⟨z, 0, 0, 0, 0, 0, 0⟩ ⟨ByteArray.empty, 0, 0, 0, 0, 0, 0⟩ = true := by rw [hz]; exact eqSta_refl _
  rw [ez] at hBr
  obtain ⟨b1, b2⟩ := withinS_zero.1 hb
  have ht := takes_num hm hr hsp b1 b2
  have hSt := fun up => c_Stop (gl := gl) up s m b (s.num m b) (fun _ => ht)
  have hPk := fun up => c_Peak (gl := gl) up s m b (s.num m b) (fun _ => ht)
  have hrP := fun up => c_rPeakN (gl := gl) up m s b hm hr hsp b1 b2
  have hrT := fun up => c_rStopN (gl := gl) up m s b hm hr hsp b1 b2
  unfold Sta.StopR Sta.err0 at hSt
  unfold Sta.peakR Sta.err0 at hPk
  have qp' := qp
  unfold Sta.pk at qp'
  rw [he, orL_0, hb, show (orL [0] != 0) = false from rfl, cond_false, qp', stopF_eq] at hSt
  rw [he, orL_0, hb, show (orL [0] != 0) = false from rfl, cond_false] at hPk
  rw [hb] at hF1 hF2 hB
  rw [show orL [(0 : Int)] = 0 from rfl] at hF2
  obtain ⟨p, hp⟩ : ∃ p, p = s.pk m b := ⟨_, rfl⟩
  have hp2 : s.most m b (s.num m b) = p := hp.symm
  rw [hp2] at hPk
  rw [← hp] at hrP qp
  have ep : (p == p) = true := beq_self_eq_true p
  obtain ⟨n, hn⟩ : ∃ n, n = s.num m b := ⟨_, rfl⟩
  rw [← hn] at hPk hSt hrP hrT
  have en : ((n : Int) == n) = true := beq_self_eq_true _
  simp only [cond_true] at hSt
  obtain ⟨O, hO⟩ : ∃ O, O = orL [withinS a 0 m.wind, 0] := ⟨_, rfl⟩
  have nO : O ≠ 0 := fun h => ha (by
    rw [hO, orL_zero] at h
    exact h _ (by simp))
  rw [hb, ← hO] at hBr
  rw [← hO] at hF1
  have qO : (O != 0) = true := by simpa using nO
  have zO : (O == 0) = false := by simpa using nO
  rw [qO, cond_true] at hBr
  have eO : (O == O) = true := beq_self_eq_true O
  clear nO hO
  clear hF hz ez hp hp2 hn qp' ht hb he
  refine mk h_nacellelaw05_ControlStops rfl rfl ?_
  conv => whnf
  repeat first
    | (refine DRAW.seek ?_; repeat (first | refine TRYD.take ?_ | refine TRYD.next ?_); conv => whnf)
    | (refine HOLD.mk (by first | exact trivial | exact ⟨⟨rfl, rfl⟩, trivial⟩ | exact ⟨⟨rfl, rfl⟩, ⟨rfl, rfl⟩, trivial⟩) ?_; (conv => whnf))
    | (refine CALL0.cutBy lvStops _ _ _ _ _ (leL_refl _) (hS ..) rfl ?_; conv => whnf)
    | (refine CALL0.by (hS ..) rfl ?_; conv => whnf)
    | (refine CALLQ.mk _ _ _ (leL_refl _) (hS ..) rfl ?_; conv => whnf)
  split
  · rename_i h
    exact Bool.noConfusion ((ql).symm.trans h)
  rename_i hN
  clear hN
  conv => whnf
  repeat first
    | (refine DRAW.seek ?_; repeat (first | refine TRYD.take ?_ | refine TRYD.next ?_); conv => whnf)
    | (refine HOLD.mk (by first | exact trivial | exact ⟨⟨rfl, rfl⟩, trivial⟩ | exact ⟨⟨rfl, rfl⟩, ⟨rfl, rfl⟩, trivial⟩) ?_; (conv => whnf))
    | (refine CALL0.cutBy lvStops _ _ _ _ _ (leL_refl _) (c_machine ..) rfl ?_; conv => whnf)
    | (refine CALL0.by (c_machine ..) rfl ?_; conv => whnf)
    | (refine CALLQ.mk _ _ _ (leL_refl _) (c_machine ..) rfl ?_; conv => whnf)
    | (refine CALL0.cutBy lvStops _ _ _ _ _ (leL_refl _) (c_state ..) rfl ?_; conv => whnf)
    | (refine CALL0.by (c_state ..) rfl ?_; conv => whnf)
    | (refine CALLQ.mk _ _ _ (leL_refl _) (c_state ..) rfl ?_; conv => whnf)
    | (refine CALL0.cutBy lvStops _ _ _ _ _ (leL_refl _) (hBr ..) rfl ?_; conv => whnf)
    | (refine CALL0.by (hBr ..) rfl ?_; conv => whnf)
    | (refine CALLQ.mk _ _ _ (leL_refl _) (hBr ..) rfl ?_; conv => whnf)
    | (refine CALL0.cutBy lvStops _ _ _ _ _ (leL_refl _) (hSt ..) rfl ?_; conv => whnf)
    | (refine CALL0.by (hSt ..) rfl ?_; conv => whnf)
    | (refine CALLQ.mk _ _ _ (leL_refl _) (hSt ..) rfl ?_; conv => whnf)
    | (refine CALL0.cutBy lvStops _ _ _ _ _ (leL_refl _) (hPk ..) rfl ?_; conv => whnf)
    | (refine CALL0.by (hPk ..) rfl ?_; conv => whnf)
    | (refine CALLQ.mk _ _ _ (leL_refl _) (hPk ..) rfl ?_; conv => whnf)
    | (refine CALL0.cutBy lvStops _ _ _ _ _ (leL_refl _) (hSf ..) rfl ?_; conv => whnf)
    | (refine CALL0.by (hSf ..) rfl ?_; conv => whnf)
    | (refine CALLQ.mk _ _ _ (leL_refl _) (hSf ..) rfl ?_; conv => whnf)
    | (refine CALL0.cutBy lvStops _ _ _ _ _ (leL_refl _) (hCS ..) rfl ?_; conv => whnf)
    | (refine CALL0.by (hCS ..) rfl ?_; conv => whnf)
    | (refine CALLQ.mk _ _ _ (leL_refl _) (hCS ..) rfl ?_; conv => whnf)
  repeat first
    | (refine DRAW.seek ?_; repeat (first | refine TRYD.take ?_ | refine TRYD.next ?_); conv => whnf)
    | (refine HOLD.mk (by first | exact trivial | exact ⟨⟨rfl, rfl⟩, trivial⟩ | exact ⟨⟨rfl, rfl⟩, ⟨rfl, rfl⟩, trivial⟩) ?_; (conv => whnf))
    | (refine CALL0.cutBy lvStops _ _ _ _ _ (leL_refl _) (hW ..) rfl ?_; conv => whnf)
    | (refine CALL0.by (hW ..) rfl ?_; conv => whnf)
    | (refine CALLQ.mk _ _ _ (leL_refl _) (hW ..) rfl ?_; conv => whnf)
    | (refine CALL0.cutBy lvStops _ _ _ _ _ (leL_refl _) (hB ..) rfl ?_; conv => whnf)
    | (refine CALL0.by (hB ..) rfl ?_; conv => whnf)
    | (refine CALLQ.mk _ _ _ (leL_refl _) (hB ..) rfl ?_; conv => whnf)
  refine CALL0.cutBy lvStops _ _ _ _ _ (leL_refl _) (hF1 _ _ rfl rfl) rfl ?_
  conv => whnf
  repeat first
    | (refine DRAW.seek ?_; repeat (first | refine TRYD.take ?_ | refine TRYD.next ?_); conv => whnf)
    | (refine HOLD.mk (by first | exact trivial | exact ⟨⟨rfl, rfl⟩, trivial⟩ | exact ⟨⟨rfl, rfl⟩, ⟨rfl, rfl⟩, trivial⟩) ?_; (conv => whnf))
    | (refine CALL0.cutBy lvStops _ _ _ _ _ (leL_refl _) (hB ..) rfl ?_; conv => whnf)
    | (refine CALL0.by (hB ..) rfl ?_; conv => whnf)
    | (refine CALLQ.mk _ _ _ (leL_refl _) (hB ..) rfl ?_; conv => whnf)
  refine CALL0.cutBy lvStops _ _ _ _ _ (leL_refl _) (hF2 _ _ rfl rfl) rfl ?_
  conv => whnf
  split
  · rename_i h
    exact Bool.noConfusion ((zO).symm.trans h)
  rename_i hN
  clear hN
  conv => whnf
  repeat first
    | (refine DRAW.seek ?_; repeat (first | refine TRYD.take ?_ | refine TRYD.next ?_); conv => whnf)
    | (refine HOLD.mk (by first | exact trivial | exact ⟨⟨rfl, rfl⟩, trivial⟩ | exact ⟨⟨rfl, rfl⟩, ⟨rfl, rfl⟩, trivial⟩) ?_; (conv => whnf))
    | (refine CALL0.cutBy lvStops _ _ _ _ _ (leL_refl _) (hrP ..) rfl ?_; conv => whnf)
    | (refine CALL0.by (hrP ..) rfl ?_; conv => whnf)
    | (refine CALLQ.mk _ _ _ (leL_refl _) (hrP ..) rfl ?_; conv => whnf)
    | (refine CALL0.cutBy lvStops _ _ _ _ _ (leL_refl _) (hrT ..) rfl ?_; conv => whnf)
    | (refine CALL0.by (hrT ..) rfl ?_; conv => whnf)
    | (refine CALLQ.mk _ _ _ (leL_refl _) (hrT ..) rfl ?_; conv => whnf)
  split
  rotate_left
  · rename_i h
    exact Bool.noConfusion ((qp).symm.trans h)
  rename_i hN
  clear hN
  conv => whnf
  repeat first
    | (refine DRAW.seek ?_; repeat (first | refine TRYD.take ?_ | refine TRYD.next ?_); conv => whnf)
    | (refine HOLD.mk (by first | exact trivial | exact ⟨⟨rfl, rfl⟩, trivial⟩ | exact ⟨⟨rfl, rfl⟩, ⟨rfl, rfl⟩, trivial⟩) ?_; (conv => whnf))
    | (refine CALL0.cutBy lvStops _ _ _ _ _ (leL_refl _) (hrS ..) rfl ?_; conv => whnf)
    | (refine CALL0.by (hrS ..) rfl ?_; conv => whnf)
    | (refine CALLQ.mk _ _ _ (leL_refl _) (hrS ..) rfl ?_; conv => whnf)
  split
  rotate_left
  · rename_i h
    exact Bool.noConfusion ((nz).symm.trans h)
  rename_i hN
  clear hN
  conv => whnf
  split
  rotate_left
  · rename_i h
    exact Bool.noConfusion ((eO).symm.trans h)
  rename_i hN
  clear hN
  conv => whnf
  repeat first
    | (refine DRAW.seek ?_; repeat (first | refine TRYD.take ?_ | refine TRYD.next ?_); conv => whnf)
    | (refine HOLD.mk (by first | exact trivial | exact ⟨⟨rfl, rfl⟩, trivial⟩ | exact ⟨⟨rfl, rfl⟩, ⟨rfl, rfl⟩, trivial⟩) ?_; (conv => whnf))
    | (refine CALL0.cutBy lvStops _ _ _ _ _ (leL_refl _) (c_toldNil ..) rfl ?_; conv => whnf)
    | (refine CALL0.by (c_toldNil ..) rfl ?_; conv => whnf)
    | (refine CALLQ.mk _ _ _ (leL_refl _) (c_toldNil ..) rfl ?_; conv => whnf)
    | (refine CALL0.cutBy lvStops _ _ _ _ _ (leL_refl _) (c_sameNil ..) rfl ?_; conv => whnf)
    | (refine CALL0.by (c_sameNil ..) rfl ?_; conv => whnf)
    | (refine CALLQ.mk _ _ _ (leL_refl _) (c_sameNil ..) rfl ?_; conv => whnf)
  split
  rotate_left
  · rename_i h
    exact Bool.noConfusion ((ep).symm.trans h)
  rename_i hN
  clear hN
  conv => whnf
  split
  rotate_left
  · rename_i h
    exact Bool.noConfusion ((en).symm.trans h)
  rename_i hN
  clear hN
  conv => whnf
  split
  rotate_left
  · rename_i h
    exact Bool.noConfusion ((eF).symm.trans h)
  rename_i hN
  clear hN
  conv => whnf
  repeat first
    | (refine DRAW.seek ?_; repeat (first | refine TRYD.take ?_ | refine TRYD.next ?_); conv => whnf)
    | (refine HOLD.mk (by first | exact trivial | exact ⟨⟨rfl, rfl⟩, trivial⟩ | exact ⟨⟨rfl, rfl⟩, ⟨rfl, rfl⟩, trivial⟩) ?_; (conv => whnf))
    | (refine CALL0.cutBy lvStops _ _ _ _ _ (leL_refl _) (hA ..) rfl ?_; conv => whnf)
    | (refine CALL0.by (hA ..) rfl ?_; conv => whnf)
    | (refine CALLQ.mk _ _ _ (leL_refl _) (hA ..) rfl ?_; conv => whnf)
  exact ⟨rfl, rfl⟩

set_option maxHeartbeats 16000000 in
theorem stops_fast0 (up : List Ces) (hk : gl g_control_kinds = kindsI) (hg : gl g_internal_strconv_uint64pow10 = powI) (m : Mc) (s : Sta) (a b : Int) (hs : m.smallB = true) (ql : decide ((s.mode.size : Int) > 40) = false) (he : s.err m = 0) (hb : withinS b (-1) 2 = 0)
    (qp : decide (s.pk m b > m.lim) = false) (ha : withinS a 0 m.wind = 0) (qf : decide ((s.brakedW m a b).speed > m.lim) = true) :
    Cs gl n_nacellelaw05_ControlStops up [m.iv, s.iv, .agg [.int .i64 a, .int .i64 b]] (.bool true) up := by
  obtain ⟨hm, hr, hl, hst, htor, hkn, hft⟩ := Sta.err_rng he
  have hlim := hm.lim
  have hsp : s.speed ≤ 10000 := by omega
  have hS := fun up => c_rSmall (gl := gl) up m
  rw [hs] at hS
  have hA := fun up => c_awake (gl := gl) up hk hg
  have hBr := fun up => c_Braked (gl := gl) up s m a b
  have hSf := fun up => c_Safe (gl := gl) up s m (fun k => s.num m k) (fun _ k hk3 => takes_num hm hr hsp (by omega) (by omega))
  have hrS := fun up => c_rSafe (gl := gl) up m s hm hr hsp
  have hCS := fun up => c_rState (gl := gl) up m s
  have hW := fun up => c_rWind (gl := gl) up m a
  have hB := fun up => c_rBlade (gl := gl) up b
  unfold Sta.SafeR at hSf
  unfold Sta.BrakedR Sta.BrakedE at hBr
  rw [he] at hSf hCS hBr
  rw [orL_0] at hBr
  rw [show ((0 : Int) != 0) = false from rfl, cond_false] at hSf
  have hF1 := fun up f h0 h1 => c_rl2 (gl := gl) up f (withinS a 0 m.wind) (withinS b (-1) 2) h0 h1
  have hF2 := fun up f h0 h1 => c_rl2 (gl := gl) up f 0 (withinS b (-1) 2) h0 h1
  rw [orL_0] at hF2
  obtain ⟨F, hF⟩ : ∃ F, F = s.safeN m := ⟨_, rfl⟩
  rw [← hF] at hrS
  replace hSf : ∀ up, Cs gl n_control_Safe up [m.iv, s.iv] (.tup [.bool F, .int .i64 0]) up := by rw [hF]; exact hSf
  have eF : (F == F) = true := beq_self_eq_true F
  obtain ⟨z, hz⟩ : ∃ z, z = ByteArray.empty := ⟨_, rfl⟩
  have ez : Sta.zero = ⟨z, 0, 0, 0, 0, 0, 0⟩ := by rw [hz]; rfl
  have nz : eqSta ⟨z, 0, 0, 0, 0, 0, 0⟩ ⟨ByteArray.empty, 0, 0, 0, 0, 0, 0⟩ = true := by rw [hz]; exact eqSta_refl _
  rw [ez] at hBr
  obtain ⟨b1, b2⟩ := withinS_zero.1 hb
  have ht := takes_num hm hr hsp b1 b2
  have hSt := fun up => c_Stop (gl := gl) up s m b (s.num m b) (fun _ => ht)
  have hPk := fun up => c_Peak (gl := gl) up s m b (s.num m b) (fun _ => ht)
  have hrP := fun up => c_rPeakN (gl := gl) up m s b hm hr hsp b1 b2
  have hrT := fun up => c_rStopN (gl := gl) up m s b hm hr hsp b1 b2
  unfold Sta.StopR Sta.err0 at hSt
  unfold Sta.peakR Sta.err0 at hPk
  have qp' := qp
  unfold Sta.pk at qp'
  rw [he, orL_0, hb, show (orL [0] != 0) = false from rfl, cond_false, qp', stopF_eq] at hSt
  rw [he, orL_0, hb, show (orL [0] != 0) = false from rfl, cond_false] at hPk
  rw [hb] at hF1 hF2 hB
  rw [show orL [(0 : Int)] = 0 from rfl] at hF2
  obtain ⟨p, hp⟩ : ∃ p, p = s.pk m b := ⟨_, rfl⟩
  have hp2 : s.most m b (s.num m b) = p := hp.symm
  rw [hp2] at hPk
  rw [← hp] at hrP qp
  have ep : (p == p) = true := beq_self_eq_true p
  obtain ⟨n, hn⟩ : ∃ n, n = s.num m b := ⟨_, rfl⟩
  rw [← hn] at hPk hSt hrP hrT
  have en : ((n : Int) == n) = true := beq_self_eq_true _
  have hTo := fun up => c_told (gl := gl) up (1 + n) (by omega) (s.stopS m b)
  have hSa := fun up => c_rSameStates (gl := gl) up (1 + n) (1 + n) (by omega) (s.stopS m b) (s.stopS m b)
  rw [sameSt_refl] at hSa
  simp only [cond_false] at hSt
  obtain ⟨a1, a2⟩ := withinS_zero.1 ha
  have hrB := fun up => c_rBraked (gl := gl) up m s a b hm hr (by have := hm.wind; omega)
  rw [hb, ha, show (orL [0, 0] != 0) = false from rfl, cond_false, qf] at hBr
  rw [ha] at hW hF1
  rw [show orL [(0 : Int), 0] = 0 from rfl] at hF1
  obtain ⟨x, hx⟩ : ∃ x, x = s.brakedW m a b := ⟨_, rfl⟩
  rw [← hx] at hBr hrB qf
  have ex : eqSta x x = true := eqSta_refl x
  simp only [cond_true] at hBr
  clear hx
  clear hF hz ez hp hp2 hn qp' ht hb he
  refine mk h_nacellelaw05_ControlStops rfl rfl ?_
  conv => whnf
  repeat first
    | (refine DRAW.seek ?_; repeat (first | refine TRYD.take ?_ | refine TRYD.next ?_); conv => whnf)
    | (refine HOLD.mk (by first | exact trivial | exact ⟨⟨rfl, rfl⟩, trivial⟩ | exact ⟨⟨rfl, rfl⟩, ⟨rfl, rfl⟩, trivial⟩) ?_; (conv => whnf))
    | (refine CALL0.cutBy lvStops _ _ _ _ _ (leL_refl _) (hS ..) rfl ?_; conv => whnf)
    | (refine CALL0.by (hS ..) rfl ?_; conv => whnf)
    | (refine CALLQ.mk _ _ _ (leL_refl _) (hS ..) rfl ?_; conv => whnf)
  split
  · rename_i h
    exact Bool.noConfusion ((ql).symm.trans h)
  rename_i hN
  clear hN
  conv => whnf
  repeat first
    | (refine DRAW.seek ?_; repeat (first | refine TRYD.take ?_ | refine TRYD.next ?_); conv => whnf)
    | (refine HOLD.mk (by first | exact trivial | exact ⟨⟨rfl, rfl⟩, trivial⟩ | exact ⟨⟨rfl, rfl⟩, ⟨rfl, rfl⟩, trivial⟩) ?_; (conv => whnf))
    | (refine CALL0.cutBy lvStops _ _ _ _ _ (leL_refl _) (c_machine ..) rfl ?_; conv => whnf)
    | (refine CALL0.by (c_machine ..) rfl ?_; conv => whnf)
    | (refine CALLQ.mk _ _ _ (leL_refl _) (c_machine ..) rfl ?_; conv => whnf)
    | (refine CALL0.cutBy lvStops _ _ _ _ _ (leL_refl _) (c_state ..) rfl ?_; conv => whnf)
    | (refine CALL0.by (c_state ..) rfl ?_; conv => whnf)
    | (refine CALLQ.mk _ _ _ (leL_refl _) (c_state ..) rfl ?_; conv => whnf)
    | (refine CALL0.cutBy lvStops _ _ _ _ _ (leL_refl _) (hBr ..) rfl ?_; conv => whnf)
    | (refine CALL0.by (hBr ..) rfl ?_; conv => whnf)
    | (refine CALLQ.mk _ _ _ (leL_refl _) (hBr ..) rfl ?_; conv => whnf)
    | (refine CALL0.cutBy lvStops _ _ _ _ _ (leL_refl _) (hSt ..) rfl ?_; conv => whnf)
    | (refine CALL0.by (hSt ..) rfl ?_; conv => whnf)
    | (refine CALLQ.mk _ _ _ (leL_refl _) (hSt ..) rfl ?_; conv => whnf)
    | (refine CALL0.cutBy lvStops _ _ _ _ _ (leL_refl _) (hPk ..) rfl ?_; conv => whnf)
    | (refine CALL0.by (hPk ..) rfl ?_; conv => whnf)
    | (refine CALLQ.mk _ _ _ (leL_refl _) (hPk ..) rfl ?_; conv => whnf)
    | (refine CALL0.cutBy lvStops _ _ _ _ _ (leL_refl _) (hSf ..) rfl ?_; conv => whnf)
    | (refine CALL0.by (hSf ..) rfl ?_; conv => whnf)
    | (refine CALLQ.mk _ _ _ (leL_refl _) (hSf ..) rfl ?_; conv => whnf)
    | (refine CALL0.cutBy lvStops _ _ _ _ _ (leL_refl _) (hCS ..) rfl ?_; conv => whnf)
    | (refine CALL0.by (hCS ..) rfl ?_; conv => whnf)
    | (refine CALLQ.mk _ _ _ (leL_refl _) (hCS ..) rfl ?_; conv => whnf)
  repeat first
    | (refine DRAW.seek ?_; repeat (first | refine TRYD.take ?_ | refine TRYD.next ?_); conv => whnf)
    | (refine HOLD.mk (by first | exact trivial | exact ⟨⟨rfl, rfl⟩, trivial⟩ | exact ⟨⟨rfl, rfl⟩, ⟨rfl, rfl⟩, trivial⟩) ?_; (conv => whnf))
    | (refine CALL0.cutBy lvStops _ _ _ _ _ (leL_refl _) (hW ..) rfl ?_; conv => whnf)
    | (refine CALL0.by (hW ..) rfl ?_; conv => whnf)
    | (refine CALLQ.mk _ _ _ (leL_refl _) (hW ..) rfl ?_; conv => whnf)
    | (refine CALL0.cutBy lvStops _ _ _ _ _ (leL_refl _) (hB ..) rfl ?_; conv => whnf)
    | (refine CALL0.by (hB ..) rfl ?_; conv => whnf)
    | (refine CALLQ.mk _ _ _ (leL_refl _) (hB ..) rfl ?_; conv => whnf)
  refine CALL0.cutBy lvStops _ _ _ _ _ (leL_refl _) (hF1 _ _ rfl rfl) rfl ?_
  conv => whnf
  repeat first
    | (refine DRAW.seek ?_; repeat (first | refine TRYD.take ?_ | refine TRYD.next ?_); conv => whnf)
    | (refine HOLD.mk (by first | exact trivial | exact ⟨⟨rfl, rfl⟩, trivial⟩ | exact ⟨⟨rfl, rfl⟩, ⟨rfl, rfl⟩, trivial⟩) ?_; (conv => whnf))
    | (refine CALL0.cutBy lvStops _ _ _ _ _ (leL_refl _) (hB ..) rfl ?_; conv => whnf)
    | (refine CALL0.by (hB ..) rfl ?_; conv => whnf)
    | (refine CALLQ.mk _ _ _ (leL_refl _) (hB ..) rfl ?_; conv => whnf)
  refine CALL0.cutBy lvStops _ _ _ _ _ (leL_refl _) (hF2 _ _ rfl rfl) rfl ?_
  conv => whnf
  repeat first
    | (refine DRAW.seek ?_; repeat (first | refine TRYD.take ?_ | refine TRYD.next ?_); conv => whnf)
    | (refine HOLD.mk (by first | exact trivial | exact ⟨⟨rfl, rfl⟩, trivial⟩ | exact ⟨⟨rfl, rfl⟩, ⟨rfl, rfl⟩, trivial⟩) ?_; (conv => whnf))
    | (refine CALL0.cutBy lvStops _ _ _ _ _ (leL_refl _) (hrB ..) rfl ?_; conv => whnf)
    | (refine CALL0.by (hrB ..) rfl ?_; conv => whnf)
    | (refine CALLQ.mk _ _ _ (leL_refl _) (hrB ..) rfl ?_; conv => whnf)
  split
  rotate_left
  · rename_i h
    exact Bool.noConfusion ((qf).symm.trans h)
  rename_i hN
  clear hN
  conv => whnf
  repeat first
    | (refine DRAW.seek ?_; repeat (first | refine TRYD.take ?_ | refine TRYD.next ?_); conv => whnf)
    | (refine HOLD.mk (by first | exact trivial | exact ⟨⟨rfl, rfl⟩, trivial⟩ | exact ⟨⟨rfl, rfl⟩, ⟨rfl, rfl⟩, trivial⟩) ?_; (conv => whnf))
    | (refine CALL0.cutBy lvStops _ _ _ _ _ (leL_refl _) (hrP ..) rfl ?_; conv => whnf)
    | (refine CALL0.by (hrP ..) rfl ?_; conv => whnf)
    | (refine CALLQ.mk _ _ _ (leL_refl _) (hrP ..) rfl ?_; conv => whnf)
    | (refine CALL0.cutBy lvStops _ _ _ _ _ (leL_refl _) (hrT ..) rfl ?_; conv => whnf)
    | (refine CALL0.by (hrT ..) rfl ?_; conv => whnf)
    | (refine CALLQ.mk _ _ _ (leL_refl _) (hrT ..) rfl ?_; conv => whnf)
  split
  · rename_i h
    exact Bool.noConfusion ((qp).symm.trans h)
  rename_i hN
  clear hN
  conv => whnf
  repeat first
    | (refine DRAW.seek ?_; repeat (first | refine TRYD.take ?_ | refine TRYD.next ?_); conv => whnf)
    | (refine HOLD.mk (by first | exact trivial | exact ⟨⟨rfl, rfl⟩, trivial⟩ | exact ⟨⟨rfl, rfl⟩, ⟨rfl, rfl⟩, trivial⟩) ?_; (conv => whnf))
    | (refine CALL0.cutBy lvStops _ _ _ _ _ (leL_refl _) (hrS ..) rfl ?_; conv => whnf)
    | (refine CALL0.by (hrS ..) rfl ?_; conv => whnf)
    | (refine CALLQ.mk _ _ _ (leL_refl _) (hrS ..) rfl ?_; conv => whnf)
  split
  rotate_left
  · rename_i h
    exact Bool.noConfusion ((nz).symm.trans h)
  rename_i hN
  clear hN
  conv => whnf
  repeat first
    | (refine DRAW.seek ?_; repeat (first | refine TRYD.take ?_ | refine TRYD.next ?_); conv => whnf)
    | (refine HOLD.mk (by first | exact trivial | exact ⟨⟨rfl, rfl⟩, trivial⟩ | exact ⟨⟨rfl, rfl⟩, ⟨rfl, rfl⟩, trivial⟩) ?_; (conv => whnf))
    | (refine CALL0.cutBy lvStops _ _ _ _ _ (leL_refl _) (hTo ..) rfl ?_; conv => whnf)
    | (refine CALL0.by (hTo ..) rfl ?_; conv => whnf)
    | (refine CALLQ.mk _ _ _ (leL_refl _) (hTo ..) rfl ?_; conv => whnf)
    | (refine CALL0.cutBy lvStops _ _ _ _ _ (leL_refl _) (hSa ..) rfl ?_; conv => whnf)
    | (refine CALL0.by (hSa ..) rfl ?_; conv => whnf)
    | (refine CALLQ.mk _ _ _ (leL_refl _) (hSa ..) rfl ?_; conv => whnf)
  split
  rotate_left
  · rename_i h
    exact Bool.noConfusion ((ep).symm.trans h)
  rename_i hN
  clear hN
  conv => whnf
  split
  rotate_left
  · rename_i h
    exact Bool.noConfusion ((en).symm.trans h)
  rename_i hN
  clear hN
  conv => whnf
  split
  rotate_left
  · rename_i h
    exact Bool.noConfusion ((eF).symm.trans h)
  rename_i hN
  clear hN
  conv => whnf
  repeat first
    | (refine DRAW.seek ?_; repeat (first | refine TRYD.take ?_ | refine TRYD.next ?_); conv => whnf)
    | (refine HOLD.mk (by first | exact trivial | exact ⟨⟨rfl, rfl⟩, trivial⟩ | exact ⟨⟨rfl, rfl⟩, ⟨rfl, rfl⟩, trivial⟩) ?_; (conv => whnf))
    | (refine CALL0.cutBy lvStops _ _ _ _ _ (leL_refl _) (hA ..) rfl ?_; conv => whnf)
    | (refine CALL0.by (hA ..) rfl ?_; conv => whnf)
    | (refine CALLQ.mk _ _ _ (leL_refl _) (hA ..) rfl ?_; conv => whnf)
  exact ⟨rfl, rfl⟩

set_option maxHeartbeats 16000000 in
theorem stops_fast1 (up : List Ces) (hk : gl g_control_kinds = kindsI) (hg : gl g_internal_strconv_uint64pow10 = powI) (m : Mc) (s : Sta) (a b : Int) (hs : m.smallB = true) (ql : decide ((s.mode.size : Int) > 40) = false) (he : s.err m = 0) (hb : withinS b (-1) 2 = 0)
    (qp : decide (s.pk m b > m.lim) = true) (ha : withinS a 0 m.wind = 0) (qf : decide ((s.brakedW m a b).speed > m.lim) = true) :
    Cs gl n_nacellelaw05_ControlStops up [m.iv, s.iv, .agg [.int .i64 a, .int .i64 b]] (.bool true) up := by
  obtain ⟨hm, hr, hl, hst, htor, hkn, hft⟩ := Sta.err_rng he
  have hlim := hm.lim
  have hsp : s.speed ≤ 10000 := by omega
  have hS := fun up => c_rSmall (gl := gl) up m
  rw [hs] at hS
  have hA := fun up => c_awake (gl := gl) up hk hg
  have hBr := fun up => c_Braked (gl := gl) up s m a b
  have hSf := fun up => c_Safe (gl := gl) up s m (fun k => s.num m k) (fun _ k hk3 => takes_num hm hr hsp (by omega) (by omega))
  have hrS := fun up => c_rSafe (gl := gl) up m s hm hr hsp
  have hCS := fun up => c_rState (gl := gl) up m s
  have hW := fun up => c_rWind (gl := gl) up m a
  have hB := fun up => c_rBlade (gl := gl) up b
  unfold Sta.SafeR at hSf
  unfold Sta.BrakedR Sta.BrakedE at hBr
  rw [he] at hSf hCS hBr
  rw [orL_0] at hBr
  rw [show ((0 : Int) != 0) = false from rfl, cond_false] at hSf
  have hF1 := fun up f h0 h1 => c_rl2 (gl := gl) up f (withinS a 0 m.wind) (withinS b (-1) 2) h0 h1
  have hF2 := fun up f h0 h1 => c_rl2 (gl := gl) up f 0 (withinS b (-1) 2) h0 h1
  rw [orL_0] at hF2
  obtain ⟨F, hF⟩ : ∃ F, F = s.safeN m := ⟨_, rfl⟩
  rw [← hF] at hrS
  replace hSf : ∀ up, Cs gl n_control_Safe up [m.iv, s.iv] (.tup [.bool F, .int .i64 0]) up := by rw [hF]; exact hSf
  have eF : (F == F) = true := beq_self_eq_true F
  obtain ⟨z, hz⟩ : ∃ z, z = ByteArray.empty := ⟨_, rfl⟩
  have ez : Sta.zero = ⟨z, 0, 0, 0, 0, 0, 0⟩ := by rw [hz]; rfl
  have nz : eqSta ⟨z, 0, 0, 0, 0, 0, 0⟩ ⟨ByteArray.empty, 0, 0, 0, 0, 0, 0⟩ = true := by rw [hz]; exact eqSta_refl _
  rw [ez] at hBr
  obtain ⟨b1, b2⟩ := withinS_zero.1 hb
  have ht := takes_num hm hr hsp b1 b2
  have hSt := fun up => c_Stop (gl := gl) up s m b (s.num m b) (fun _ => ht)
  have hPk := fun up => c_Peak (gl := gl) up s m b (s.num m b) (fun _ => ht)
  have hrP := fun up => c_rPeakN (gl := gl) up m s b hm hr hsp b1 b2
  have hrT := fun up => c_rStopN (gl := gl) up m s b hm hr hsp b1 b2
  unfold Sta.StopR Sta.err0 at hSt
  unfold Sta.peakR Sta.err0 at hPk
  have qp' := qp
  unfold Sta.pk at qp'
  rw [he, orL_0, hb, show (orL [0] != 0) = false from rfl, cond_false, qp', stopF_eq] at hSt
  rw [he, orL_0, hb, show (orL [0] != 0) = false from rfl, cond_false] at hPk
  rw [hb] at hF1 hF2 hB
  rw [show orL [(0 : Int)] = 0 from rfl] at hF2
  obtain ⟨p, hp⟩ : ∃ p, p = s.pk m b := ⟨_, rfl⟩
  have hp2 : s.most m b (s.num m b) = p := hp.symm
  rw [hp2] at hPk
  rw [← hp] at hrP qp
  have ep : (p == p) = true := beq_self_eq_true p
  obtain ⟨n, hn⟩ : ∃ n, n = s.num m b := ⟨_, rfl⟩
  rw [← hn] at hPk hSt hrP hrT
  have en : ((n : Int) == n) = true := beq_self_eq_true _
  simp only [cond_true] at hSt
  obtain ⟨a1, a2⟩ := withinS_zero.1 ha
  have hrB := fun up => c_rBraked (gl := gl) up m s a b hm hr (by have := hm.wind; omega)
  rw [hb, ha, show (orL [0, 0] != 0) = false from rfl, cond_false, qf] at hBr
  rw [ha] at hW hF1
  rw [show orL [(0 : Int), 0] = 0 from rfl] at hF1
  obtain ⟨x, hx⟩ : ∃ x, x = s.brakedW m a b := ⟨_, rfl⟩
  rw [← hx] at hBr hrB qf
  have ex : eqSta x x = true := eqSta_refl x
  simp only [cond_true] at hBr
  clear hx
  clear hF hz ez hp hp2 hn qp' ht hb he
  refine mk h_nacellelaw05_ControlStops rfl rfl ?_
  conv => whnf
  repeat first
    | (refine DRAW.seek ?_; repeat (first | refine TRYD.take ?_ | refine TRYD.next ?_); conv => whnf)
    | (refine HOLD.mk (by first | exact trivial | exact ⟨⟨rfl, rfl⟩, trivial⟩ | exact ⟨⟨rfl, rfl⟩, ⟨rfl, rfl⟩, trivial⟩) ?_; (conv => whnf))
    | (refine CALL0.cutBy lvStops _ _ _ _ _ (leL_refl _) (hS ..) rfl ?_; conv => whnf)
    | (refine CALL0.by (hS ..) rfl ?_; conv => whnf)
    | (refine CALLQ.mk _ _ _ (leL_refl _) (hS ..) rfl ?_; conv => whnf)
  split
  · rename_i h
    exact Bool.noConfusion ((ql).symm.trans h)
  rename_i hN
  clear hN
  conv => whnf
  repeat first
    | (refine DRAW.seek ?_; repeat (first | refine TRYD.take ?_ | refine TRYD.next ?_); conv => whnf)
    | (refine HOLD.mk (by first | exact trivial | exact ⟨⟨rfl, rfl⟩, trivial⟩ | exact ⟨⟨rfl, rfl⟩, ⟨rfl, rfl⟩, trivial⟩) ?_; (conv => whnf))
    | (refine CALL0.cutBy lvStops _ _ _ _ _ (leL_refl _) (c_machine ..) rfl ?_; conv => whnf)
    | (refine CALL0.by (c_machine ..) rfl ?_; conv => whnf)
    | (refine CALLQ.mk _ _ _ (leL_refl _) (c_machine ..) rfl ?_; conv => whnf)
    | (refine CALL0.cutBy lvStops _ _ _ _ _ (leL_refl _) (c_state ..) rfl ?_; conv => whnf)
    | (refine CALL0.by (c_state ..) rfl ?_; conv => whnf)
    | (refine CALLQ.mk _ _ _ (leL_refl _) (c_state ..) rfl ?_; conv => whnf)
    | (refine CALL0.cutBy lvStops _ _ _ _ _ (leL_refl _) (hBr ..) rfl ?_; conv => whnf)
    | (refine CALL0.by (hBr ..) rfl ?_; conv => whnf)
    | (refine CALLQ.mk _ _ _ (leL_refl _) (hBr ..) rfl ?_; conv => whnf)
    | (refine CALL0.cutBy lvStops _ _ _ _ _ (leL_refl _) (hSt ..) rfl ?_; conv => whnf)
    | (refine CALL0.by (hSt ..) rfl ?_; conv => whnf)
    | (refine CALLQ.mk _ _ _ (leL_refl _) (hSt ..) rfl ?_; conv => whnf)
    | (refine CALL0.cutBy lvStops _ _ _ _ _ (leL_refl _) (hPk ..) rfl ?_; conv => whnf)
    | (refine CALL0.by (hPk ..) rfl ?_; conv => whnf)
    | (refine CALLQ.mk _ _ _ (leL_refl _) (hPk ..) rfl ?_; conv => whnf)
    | (refine CALL0.cutBy lvStops _ _ _ _ _ (leL_refl _) (hSf ..) rfl ?_; conv => whnf)
    | (refine CALL0.by (hSf ..) rfl ?_; conv => whnf)
    | (refine CALLQ.mk _ _ _ (leL_refl _) (hSf ..) rfl ?_; conv => whnf)
    | (refine CALL0.cutBy lvStops _ _ _ _ _ (leL_refl _) (hCS ..) rfl ?_; conv => whnf)
    | (refine CALL0.by (hCS ..) rfl ?_; conv => whnf)
    | (refine CALLQ.mk _ _ _ (leL_refl _) (hCS ..) rfl ?_; conv => whnf)
  repeat first
    | (refine DRAW.seek ?_; repeat (first | refine TRYD.take ?_ | refine TRYD.next ?_); conv => whnf)
    | (refine HOLD.mk (by first | exact trivial | exact ⟨⟨rfl, rfl⟩, trivial⟩ | exact ⟨⟨rfl, rfl⟩, ⟨rfl, rfl⟩, trivial⟩) ?_; (conv => whnf))
    | (refine CALL0.cutBy lvStops _ _ _ _ _ (leL_refl _) (hW ..) rfl ?_; conv => whnf)
    | (refine CALL0.by (hW ..) rfl ?_; conv => whnf)
    | (refine CALLQ.mk _ _ _ (leL_refl _) (hW ..) rfl ?_; conv => whnf)
    | (refine CALL0.cutBy lvStops _ _ _ _ _ (leL_refl _) (hB ..) rfl ?_; conv => whnf)
    | (refine CALL0.by (hB ..) rfl ?_; conv => whnf)
    | (refine CALLQ.mk _ _ _ (leL_refl _) (hB ..) rfl ?_; conv => whnf)
  refine CALL0.cutBy lvStops _ _ _ _ _ (leL_refl _) (hF1 _ _ rfl rfl) rfl ?_
  conv => whnf
  repeat first
    | (refine DRAW.seek ?_; repeat (first | refine TRYD.take ?_ | refine TRYD.next ?_); conv => whnf)
    | (refine HOLD.mk (by first | exact trivial | exact ⟨⟨rfl, rfl⟩, trivial⟩ | exact ⟨⟨rfl, rfl⟩, ⟨rfl, rfl⟩, trivial⟩) ?_; (conv => whnf))
    | (refine CALL0.cutBy lvStops _ _ _ _ _ (leL_refl _) (hB ..) rfl ?_; conv => whnf)
    | (refine CALL0.by (hB ..) rfl ?_; conv => whnf)
    | (refine CALLQ.mk _ _ _ (leL_refl _) (hB ..) rfl ?_; conv => whnf)
  refine CALL0.cutBy lvStops _ _ _ _ _ (leL_refl _) (hF2 _ _ rfl rfl) rfl ?_
  conv => whnf
  repeat first
    | (refine DRAW.seek ?_; repeat (first | refine TRYD.take ?_ | refine TRYD.next ?_); conv => whnf)
    | (refine HOLD.mk (by first | exact trivial | exact ⟨⟨rfl, rfl⟩, trivial⟩ | exact ⟨⟨rfl, rfl⟩, ⟨rfl, rfl⟩, trivial⟩) ?_; (conv => whnf))
    | (refine CALL0.cutBy lvStops _ _ _ _ _ (leL_refl _) (hrB ..) rfl ?_; conv => whnf)
    | (refine CALL0.by (hrB ..) rfl ?_; conv => whnf)
    | (refine CALLQ.mk _ _ _ (leL_refl _) (hrB ..) rfl ?_; conv => whnf)
  split
  rotate_left
  · rename_i h
    exact Bool.noConfusion ((qf).symm.trans h)
  rename_i hN
  clear hN
  conv => whnf
  repeat first
    | (refine DRAW.seek ?_; repeat (first | refine TRYD.take ?_ | refine TRYD.next ?_); conv => whnf)
    | (refine HOLD.mk (by first | exact trivial | exact ⟨⟨rfl, rfl⟩, trivial⟩ | exact ⟨⟨rfl, rfl⟩, ⟨rfl, rfl⟩, trivial⟩) ?_; (conv => whnf))
    | (refine CALL0.cutBy lvStops _ _ _ _ _ (leL_refl _) (hrP ..) rfl ?_; conv => whnf)
    | (refine CALL0.by (hrP ..) rfl ?_; conv => whnf)
    | (refine CALLQ.mk _ _ _ (leL_refl _) (hrP ..) rfl ?_; conv => whnf)
    | (refine CALL0.cutBy lvStops _ _ _ _ _ (leL_refl _) (hrT ..) rfl ?_; conv => whnf)
    | (refine CALL0.by (hrT ..) rfl ?_; conv => whnf)
    | (refine CALLQ.mk _ _ _ (leL_refl _) (hrT ..) rfl ?_; conv => whnf)
  split
  rotate_left
  · rename_i h
    exact Bool.noConfusion ((qp).symm.trans h)
  rename_i hN
  clear hN
  conv => whnf
  repeat first
    | (refine DRAW.seek ?_; repeat (first | refine TRYD.take ?_ | refine TRYD.next ?_); conv => whnf)
    | (refine HOLD.mk (by first | exact trivial | exact ⟨⟨rfl, rfl⟩, trivial⟩ | exact ⟨⟨rfl, rfl⟩, ⟨rfl, rfl⟩, trivial⟩) ?_; (conv => whnf))
    | (refine CALL0.cutBy lvStops _ _ _ _ _ (leL_refl _) (hrS ..) rfl ?_; conv => whnf)
    | (refine CALL0.by (hrS ..) rfl ?_; conv => whnf)
    | (refine CALLQ.mk _ _ _ (leL_refl _) (hrS ..) rfl ?_; conv => whnf)
  split
  rotate_left
  · rename_i h
    exact Bool.noConfusion ((nz).symm.trans h)
  rename_i hN
  clear hN
  conv => whnf
  repeat first
    | (refine DRAW.seek ?_; repeat (first | refine TRYD.take ?_ | refine TRYD.next ?_); conv => whnf)
    | (refine HOLD.mk (by first | exact trivial | exact ⟨⟨rfl, rfl⟩, trivial⟩ | exact ⟨⟨rfl, rfl⟩, ⟨rfl, rfl⟩, trivial⟩) ?_; (conv => whnf))
    | (refine CALL0.cutBy lvStops _ _ _ _ _ (leL_refl _) (c_toldNil ..) rfl ?_; conv => whnf)
    | (refine CALL0.by (c_toldNil ..) rfl ?_; conv => whnf)
    | (refine CALLQ.mk _ _ _ (leL_refl _) (c_toldNil ..) rfl ?_; conv => whnf)
    | (refine CALL0.cutBy lvStops _ _ _ _ _ (leL_refl _) (c_sameNil ..) rfl ?_; conv => whnf)
    | (refine CALL0.by (c_sameNil ..) rfl ?_; conv => whnf)
    | (refine CALLQ.mk _ _ _ (leL_refl _) (c_sameNil ..) rfl ?_; conv => whnf)
  split
  rotate_left
  · rename_i h
    exact Bool.noConfusion ((ep).symm.trans h)
  rename_i hN
  clear hN
  conv => whnf
  split
  rotate_left
  · rename_i h
    exact Bool.noConfusion ((en).symm.trans h)
  rename_i hN
  clear hN
  conv => whnf
  split
  rotate_left
  · rename_i h
    exact Bool.noConfusion ((eF).symm.trans h)
  rename_i hN
  clear hN
  conv => whnf
  repeat first
    | (refine DRAW.seek ?_; repeat (first | refine TRYD.take ?_ | refine TRYD.next ?_); conv => whnf)
    | (refine HOLD.mk (by first | exact trivial | exact ⟨⟨rfl, rfl⟩, trivial⟩ | exact ⟨⟨rfl, rfl⟩, ⟨rfl, rfl⟩, trivial⟩) ?_; (conv => whnf))
    | (refine CALL0.cutBy lvStops _ _ _ _ _ (leL_refl _) (hA ..) rfl ?_; conv => whnf)
    | (refine CALL0.by (hA ..) rfl ?_; conv => whnf)
    | (refine CALLQ.mk _ _ _ (leL_refl _) (hA ..) rfl ?_; conv => whnf)
  exact ⟨rfl, rfl⟩

set_option maxHeartbeats 16000000 in
theorem stops_ok0 (up : List Ces) (hk : gl g_control_kinds = kindsI) (hg : gl g_internal_strconv_uint64pow10 = powI) (m : Mc) (s : Sta) (a b : Int) (hs : m.smallB = true) (ql : decide ((s.mode.size : Int) > 40) = false) (he : s.err m = 0) (hb : withinS b (-1) 2 = 0)
    (qp : decide (s.pk m b > m.lim) = false) (ha : withinS a 0 m.wind = 0) (qf : decide ((s.brakedW m a b).speed > m.lim) = false) :
    Cs gl n_nacellelaw05_ControlStops up [m.iv, s.iv, .agg [.int .i64 a, .int .i64 b]] (.bool true) up := by
  obtain ⟨hm, hr, hl, hst, htor, hkn, hft⟩ := Sta.err_rng he
  have hlim := hm.lim
  have hsp : s.speed ≤ 10000 := by omega
  have hS := fun up => c_rSmall (gl := gl) up m
  rw [hs] at hS
  have hA := fun up => c_awake (gl := gl) up hk hg
  have hBr := fun up => c_Braked (gl := gl) up s m a b
  have hSf := fun up => c_Safe (gl := gl) up s m (fun k => s.num m k) (fun _ k hk3 => takes_num hm hr hsp (by omega) (by omega))
  have hrS := fun up => c_rSafe (gl := gl) up m s hm hr hsp
  have hCS := fun up => c_rState (gl := gl) up m s
  have hW := fun up => c_rWind (gl := gl) up m a
  have hB := fun up => c_rBlade (gl := gl) up b
  unfold Sta.SafeR at hSf
  unfold Sta.BrakedR Sta.BrakedE at hBr
  rw [he] at hSf hCS hBr
  rw [orL_0] at hBr
  rw [show ((0 : Int) != 0) = false from rfl, cond_false] at hSf
  have hF1 := fun up f h0 h1 => c_rl2 (gl := gl) up f (withinS a 0 m.wind) (withinS b (-1) 2) h0 h1
  have hF2 := fun up f h0 h1 => c_rl2 (gl := gl) up f 0 (withinS b (-1) 2) h0 h1
  rw [orL_0] at hF2
  obtain ⟨F, hF⟩ : ∃ F, F = s.safeN m := ⟨_, rfl⟩
  rw [← hF] at hrS
  replace hSf : ∀ up, Cs gl n_control_Safe up [m.iv, s.iv] (.tup [.bool F, .int .i64 0]) up := by rw [hF]; exact hSf
  have eF : (F == F) = true := beq_self_eq_true F
  obtain ⟨z, hz⟩ : ∃ z, z = ByteArray.empty := ⟨_, rfl⟩
  have ez : Sta.zero = ⟨z, 0, 0, 0, 0, 0, 0⟩ := by rw [hz]; rfl
  have nz : eqSta ⟨z, 0, 0, 0, 0, 0, 0⟩ ⟨ByteArray.empty, 0, 0, 0, 0, 0, 0⟩ = true := by rw [hz]; exact eqSta_refl _
  rw [ez] at hBr
  obtain ⟨b1, b2⟩ := withinS_zero.1 hb
  have ht := takes_num hm hr hsp b1 b2
  have hSt := fun up => c_Stop (gl := gl) up s m b (s.num m b) (fun _ => ht)
  have hPk := fun up => c_Peak (gl := gl) up s m b (s.num m b) (fun _ => ht)
  have hrP := fun up => c_rPeakN (gl := gl) up m s b hm hr hsp b1 b2
  have hrT := fun up => c_rStopN (gl := gl) up m s b hm hr hsp b1 b2
  unfold Sta.StopR Sta.err0 at hSt
  unfold Sta.peakR Sta.err0 at hPk
  have qp' := qp
  unfold Sta.pk at qp'
  rw [he, orL_0, hb, show (orL [0] != 0) = false from rfl, cond_false, qp', stopF_eq] at hSt
  rw [he, orL_0, hb, show (orL [0] != 0) = false from rfl, cond_false] at hPk
  rw [hb] at hF1 hF2 hB
  rw [show orL [(0 : Int)] = 0 from rfl] at hF2
  obtain ⟨p, hp⟩ : ∃ p, p = s.pk m b := ⟨_, rfl⟩
  have hp2 : s.most m b (s.num m b) = p := hp.symm
  rw [hp2] at hPk
  rw [← hp] at hrP qp
  have ep : (p == p) = true := beq_self_eq_true p
  obtain ⟨n, hn⟩ : ∃ n, n = s.num m b := ⟨_, rfl⟩
  rw [← hn] at hPk hSt hrP hrT
  have en : ((n : Int) == n) = true := beq_self_eq_true _
  have hTo := fun up => c_told (gl := gl) up (1 + n) (by omega) (s.stopS m b)
  have hSa := fun up => c_rSameStates (gl := gl) up (1 + n) (1 + n) (by omega) (s.stopS m b) (s.stopS m b)
  rw [sameSt_refl] at hSa
  simp only [cond_false] at hSt
  obtain ⟨a1, a2⟩ := withinS_zero.1 ha
  have hrB := fun up => c_rBraked (gl := gl) up m s a b hm hr (by have := hm.wind; omega)
  rw [hb, ha, show (orL [0, 0] != 0) = false from rfl, cond_false, qf] at hBr
  rw [ha] at hW hF1
  rw [show orL [(0 : Int), 0] = 0 from rfl] at hF1
  obtain ⟨x, hx⟩ : ∃ x, x = s.brakedW m a b := ⟨_, rfl⟩
  rw [← hx] at hBr hrB qf
  have ex : eqSta x x = true := eqSta_refl x
  simp only [cond_false] at hBr
  clear hx
  clear hF hz ez hp hp2 hn qp' ht hb he
  refine mk h_nacellelaw05_ControlStops rfl rfl ?_
  conv => whnf
  repeat first
    | (refine DRAW.seek ?_; repeat (first | refine TRYD.take ?_ | refine TRYD.next ?_); conv => whnf)
    | (refine HOLD.mk (by first | exact trivial | exact ⟨⟨rfl, rfl⟩, trivial⟩ | exact ⟨⟨rfl, rfl⟩, ⟨rfl, rfl⟩, trivial⟩) ?_; (conv => whnf))
    | (refine CALL0.cutBy lvStops _ _ _ _ _ (leL_refl _) (hS ..) rfl ?_; conv => whnf)
    | (refine CALL0.by (hS ..) rfl ?_; conv => whnf)
    | (refine CALLQ.mk _ _ _ (leL_refl _) (hS ..) rfl ?_; conv => whnf)
  split
  · rename_i h
    exact Bool.noConfusion ((ql).symm.trans h)
  rename_i hN
  clear hN
  conv => whnf
  repeat first
    | (refine DRAW.seek ?_; repeat (first | refine TRYD.take ?_ | refine TRYD.next ?_); conv => whnf)
    | (refine HOLD.mk (by first | exact trivial | exact ⟨⟨rfl, rfl⟩, trivial⟩ | exact ⟨⟨rfl, rfl⟩, ⟨rfl, rfl⟩, trivial⟩) ?_; (conv => whnf))
    | (refine CALL0.cutBy lvStops _ _ _ _ _ (leL_refl _) (c_machine ..) rfl ?_; conv => whnf)
    | (refine CALL0.by (c_machine ..) rfl ?_; conv => whnf)
    | (refine CALLQ.mk _ _ _ (leL_refl _) (c_machine ..) rfl ?_; conv => whnf)
    | (refine CALL0.cutBy lvStops _ _ _ _ _ (leL_refl _) (c_state ..) rfl ?_; conv => whnf)
    | (refine CALL0.by (c_state ..) rfl ?_; conv => whnf)
    | (refine CALLQ.mk _ _ _ (leL_refl _) (c_state ..) rfl ?_; conv => whnf)
    | (refine CALL0.cutBy lvStops _ _ _ _ _ (leL_refl _) (hBr ..) rfl ?_; conv => whnf)
    | (refine CALL0.by (hBr ..) rfl ?_; conv => whnf)
    | (refine CALLQ.mk _ _ _ (leL_refl _) (hBr ..) rfl ?_; conv => whnf)
    | (refine CALL0.cutBy lvStops _ _ _ _ _ (leL_refl _) (hSt ..) rfl ?_; conv => whnf)
    | (refine CALL0.by (hSt ..) rfl ?_; conv => whnf)
    | (refine CALLQ.mk _ _ _ (leL_refl _) (hSt ..) rfl ?_; conv => whnf)
    | (refine CALL0.cutBy lvStops _ _ _ _ _ (leL_refl _) (hPk ..) rfl ?_; conv => whnf)
    | (refine CALL0.by (hPk ..) rfl ?_; conv => whnf)
    | (refine CALLQ.mk _ _ _ (leL_refl _) (hPk ..) rfl ?_; conv => whnf)
    | (refine CALL0.cutBy lvStops _ _ _ _ _ (leL_refl _) (hSf ..) rfl ?_; conv => whnf)
    | (refine CALL0.by (hSf ..) rfl ?_; conv => whnf)
    | (refine CALLQ.mk _ _ _ (leL_refl _) (hSf ..) rfl ?_; conv => whnf)
    | (refine CALL0.cutBy lvStops _ _ _ _ _ (leL_refl _) (hCS ..) rfl ?_; conv => whnf)
    | (refine CALL0.by (hCS ..) rfl ?_; conv => whnf)
    | (refine CALLQ.mk _ _ _ (leL_refl _) (hCS ..) rfl ?_; conv => whnf)
  repeat first
    | (refine DRAW.seek ?_; repeat (first | refine TRYD.take ?_ | refine TRYD.next ?_); conv => whnf)
    | (refine HOLD.mk (by first | exact trivial | exact ⟨⟨rfl, rfl⟩, trivial⟩ | exact ⟨⟨rfl, rfl⟩, ⟨rfl, rfl⟩, trivial⟩) ?_; (conv => whnf))
    | (refine CALL0.cutBy lvStops _ _ _ _ _ (leL_refl _) (hW ..) rfl ?_; conv => whnf)
    | (refine CALL0.by (hW ..) rfl ?_; conv => whnf)
    | (refine CALLQ.mk _ _ _ (leL_refl _) (hW ..) rfl ?_; conv => whnf)
    | (refine CALL0.cutBy lvStops _ _ _ _ _ (leL_refl _) (hB ..) rfl ?_; conv => whnf)
    | (refine CALL0.by (hB ..) rfl ?_; conv => whnf)
    | (refine CALLQ.mk _ _ _ (leL_refl _) (hB ..) rfl ?_; conv => whnf)
  refine CALL0.cutBy lvStops _ _ _ _ _ (leL_refl _) (hF1 _ _ rfl rfl) rfl ?_
  conv => whnf
  repeat first
    | (refine DRAW.seek ?_; repeat (first | refine TRYD.take ?_ | refine TRYD.next ?_); conv => whnf)
    | (refine HOLD.mk (by first | exact trivial | exact ⟨⟨rfl, rfl⟩, trivial⟩ | exact ⟨⟨rfl, rfl⟩, ⟨rfl, rfl⟩, trivial⟩) ?_; (conv => whnf))
    | (refine CALL0.cutBy lvStops _ _ _ _ _ (leL_refl _) (hB ..) rfl ?_; conv => whnf)
    | (refine CALL0.by (hB ..) rfl ?_; conv => whnf)
    | (refine CALLQ.mk _ _ _ (leL_refl _) (hB ..) rfl ?_; conv => whnf)
  refine CALL0.cutBy lvStops _ _ _ _ _ (leL_refl _) (hF2 _ _ rfl rfl) rfl ?_
  conv => whnf
  repeat first
    | (refine DRAW.seek ?_; repeat (first | refine TRYD.take ?_ | refine TRYD.next ?_); conv => whnf)
    | (refine HOLD.mk (by first | exact trivial | exact ⟨⟨rfl, rfl⟩, trivial⟩ | exact ⟨⟨rfl, rfl⟩, ⟨rfl, rfl⟩, trivial⟩) ?_; (conv => whnf))
    | (refine CALL0.cutBy lvStops _ _ _ _ _ (leL_refl _) (hrB ..) rfl ?_; conv => whnf)
    | (refine CALL0.by (hrB ..) rfl ?_; conv => whnf)
    | (refine CALLQ.mk _ _ _ (leL_refl _) (hrB ..) rfl ?_; conv => whnf)
  split
  · rename_i h
    exact Bool.noConfusion ((qf).symm.trans h)
  rename_i hN
  clear hN
  conv => whnf
  repeat first
    | (refine DRAW.seek ?_; repeat (first | refine TRYD.take ?_ | refine TRYD.next ?_); conv => whnf)
    | (refine HOLD.mk (by first | exact trivial | exact ⟨⟨rfl, rfl⟩, trivial⟩ | exact ⟨⟨rfl, rfl⟩, ⟨rfl, rfl⟩, trivial⟩) ?_; (conv => whnf))
    | (refine CALL0.cutBy lvStops _ _ _ _ _ (leL_refl _) (hrP ..) rfl ?_; conv => whnf)
    | (refine CALL0.by (hrP ..) rfl ?_; conv => whnf)
    | (refine CALLQ.mk _ _ _ (leL_refl _) (hrP ..) rfl ?_; conv => whnf)
    | (refine CALL0.cutBy lvStops _ _ _ _ _ (leL_refl _) (hrT ..) rfl ?_; conv => whnf)
    | (refine CALL0.by (hrT ..) rfl ?_; conv => whnf)
    | (refine CALLQ.mk _ _ _ (leL_refl _) (hrT ..) rfl ?_; conv => whnf)
  split
  · rename_i h
    exact Bool.noConfusion ((qp).symm.trans h)
  rename_i hN
  clear hN
  conv => whnf
  repeat first
    | (refine DRAW.seek ?_; repeat (first | refine TRYD.take ?_ | refine TRYD.next ?_); conv => whnf)
    | (refine HOLD.mk (by first | exact trivial | exact ⟨⟨rfl, rfl⟩, trivial⟩ | exact ⟨⟨rfl, rfl⟩, ⟨rfl, rfl⟩, trivial⟩) ?_; (conv => whnf))
    | (refine CALL0.cutBy lvStops _ _ _ _ _ (leL_refl _) (hrS ..) rfl ?_; conv => whnf)
    | (refine CALL0.by (hrS ..) rfl ?_; conv => whnf)
    | (refine CALLQ.mk _ _ _ (leL_refl _) (hrS ..) rfl ?_; conv => whnf)
  split
  rotate_left
  · rename_i h
    exact Bool.noConfusion ((ex).symm.trans h)
  rename_i hN
  clear hN
  conv => whnf
  repeat first
    | (refine DRAW.seek ?_; repeat (first | refine TRYD.take ?_ | refine TRYD.next ?_); conv => whnf)
    | (refine HOLD.mk (by first | exact trivial | exact ⟨⟨rfl, rfl⟩, trivial⟩ | exact ⟨⟨rfl, rfl⟩, ⟨rfl, rfl⟩, trivial⟩) ?_; (conv => whnf))
    | (refine CALL0.cutBy lvStops _ _ _ _ _ (leL_refl _) (hTo ..) rfl ?_; conv => whnf)
    | (refine CALL0.by (hTo ..) rfl ?_; conv => whnf)
    | (refine CALLQ.mk _ _ _ (leL_refl _) (hTo ..) rfl ?_; conv => whnf)
    | (refine CALL0.cutBy lvStops _ _ _ _ _ (leL_refl _) (hSa ..) rfl ?_; conv => whnf)
    | (refine CALL0.by (hSa ..) rfl ?_; conv => whnf)
    | (refine CALLQ.mk _ _ _ (leL_refl _) (hSa ..) rfl ?_; conv => whnf)
  split
  rotate_left
  · rename_i h
    exact Bool.noConfusion ((ep).symm.trans h)
  rename_i hN
  clear hN
  conv => whnf
  split
  rotate_left
  · rename_i h
    exact Bool.noConfusion ((en).symm.trans h)
  rename_i hN
  clear hN
  conv => whnf
  split
  rotate_left
  · rename_i h
    exact Bool.noConfusion ((eF).symm.trans h)
  rename_i hN
  clear hN
  conv => whnf
  repeat first
    | (refine DRAW.seek ?_; repeat (first | refine TRYD.take ?_ | refine TRYD.next ?_); conv => whnf)
    | (refine HOLD.mk (by first | exact trivial | exact ⟨⟨rfl, rfl⟩, trivial⟩ | exact ⟨⟨rfl, rfl⟩, ⟨rfl, rfl⟩, trivial⟩) ?_; (conv => whnf))
    | (refine CALL0.cutBy lvStops _ _ _ _ _ (leL_refl _) (hA ..) rfl ?_; conv => whnf)
    | (refine CALL0.by (hA ..) rfl ?_; conv => whnf)
    | (refine CALLQ.mk _ _ _ (leL_refl _) (hA ..) rfl ?_; conv => whnf)
  exact ⟨rfl, rfl⟩

set_option maxHeartbeats 16000000 in
theorem stops_ok1 (up : List Ces) (hk : gl g_control_kinds = kindsI) (hg : gl g_internal_strconv_uint64pow10 = powI) (m : Mc) (s : Sta) (a b : Int) (hs : m.smallB = true) (ql : decide ((s.mode.size : Int) > 40) = false) (he : s.err m = 0) (hb : withinS b (-1) 2 = 0)
    (qp : decide (s.pk m b > m.lim) = true) (ha : withinS a 0 m.wind = 0) (qf : decide ((s.brakedW m a b).speed > m.lim) = false) :
    Cs gl n_nacellelaw05_ControlStops up [m.iv, s.iv, .agg [.int .i64 a, .int .i64 b]] (.bool true) up := by
  obtain ⟨hm, hr, hl, hst, htor, hkn, hft⟩ := Sta.err_rng he
  have hlim := hm.lim
  have hsp : s.speed ≤ 10000 := by omega
  have hS := fun up => c_rSmall (gl := gl) up m
  rw [hs] at hS
  have hA := fun up => c_awake (gl := gl) up hk hg
  have hBr := fun up => c_Braked (gl := gl) up s m a b
  have hSf := fun up => c_Safe (gl := gl) up s m (fun k => s.num m k) (fun _ k hk3 => takes_num hm hr hsp (by omega) (by omega))
  have hrS := fun up => c_rSafe (gl := gl) up m s hm hr hsp
  have hCS := fun up => c_rState (gl := gl) up m s
  have hW := fun up => c_rWind (gl := gl) up m a
  have hB := fun up => c_rBlade (gl := gl) up b
  unfold Sta.SafeR at hSf
  unfold Sta.BrakedR Sta.BrakedE at hBr
  rw [he] at hSf hCS hBr
  rw [orL_0] at hBr
  rw [show ((0 : Int) != 0) = false from rfl, cond_false] at hSf
  have hF1 := fun up f h0 h1 => c_rl2 (gl := gl) up f (withinS a 0 m.wind) (withinS b (-1) 2) h0 h1
  have hF2 := fun up f h0 h1 => c_rl2 (gl := gl) up f 0 (withinS b (-1) 2) h0 h1
  rw [orL_0] at hF2
  obtain ⟨F, hF⟩ : ∃ F, F = s.safeN m := ⟨_, rfl⟩
  rw [← hF] at hrS
  replace hSf : ∀ up, Cs gl n_control_Safe up [m.iv, s.iv] (.tup [.bool F, .int .i64 0]) up := by rw [hF]; exact hSf
  have eF : (F == F) = true := beq_self_eq_true F
  obtain ⟨z, hz⟩ : ∃ z, z = ByteArray.empty := ⟨_, rfl⟩
  have ez : Sta.zero = ⟨z, 0, 0, 0, 0, 0, 0⟩ := by rw [hz]; rfl
  have nz : eqSta ⟨z, 0, 0, 0, 0, 0, 0⟩ ⟨ByteArray.empty, 0, 0, 0, 0, 0, 0⟩ = true := by rw [hz]; exact eqSta_refl _
  rw [ez] at hBr
  obtain ⟨b1, b2⟩ := withinS_zero.1 hb
  have ht := takes_num hm hr hsp b1 b2
  have hSt := fun up => c_Stop (gl := gl) up s m b (s.num m b) (fun _ => ht)
  have hPk := fun up => c_Peak (gl := gl) up s m b (s.num m b) (fun _ => ht)
  have hrP := fun up => c_rPeakN (gl := gl) up m s b hm hr hsp b1 b2
  have hrT := fun up => c_rStopN (gl := gl) up m s b hm hr hsp b1 b2
  unfold Sta.StopR Sta.err0 at hSt
  unfold Sta.peakR Sta.err0 at hPk
  have qp' := qp
  unfold Sta.pk at qp'
  rw [he, orL_0, hb, show (orL [0] != 0) = false from rfl, cond_false, qp', stopF_eq] at hSt
  rw [he, orL_0, hb, show (orL [0] != 0) = false from rfl, cond_false] at hPk
  rw [hb] at hF1 hF2 hB
  rw [show orL [(0 : Int)] = 0 from rfl] at hF2
  obtain ⟨p, hp⟩ : ∃ p, p = s.pk m b := ⟨_, rfl⟩
  have hp2 : s.most m b (s.num m b) = p := hp.symm
  rw [hp2] at hPk
  rw [← hp] at hrP qp
  have ep : (p == p) = true := beq_self_eq_true p
  obtain ⟨n, hn⟩ : ∃ n, n = s.num m b := ⟨_, rfl⟩
  rw [← hn] at hPk hSt hrP hrT
  have en : ((n : Int) == n) = true := beq_self_eq_true _
  simp only [cond_true] at hSt
  obtain ⟨a1, a2⟩ := withinS_zero.1 ha
  have hrB := fun up => c_rBraked (gl := gl) up m s a b hm hr (by have := hm.wind; omega)
  rw [hb, ha, show (orL [0, 0] != 0) = false from rfl, cond_false, qf] at hBr
  rw [ha] at hW hF1
  rw [show orL [(0 : Int), 0] = 0 from rfl] at hF1
  obtain ⟨x, hx⟩ : ∃ x, x = s.brakedW m a b := ⟨_, rfl⟩
  rw [← hx] at hBr hrB qf
  have ex : eqSta x x = true := eqSta_refl x
  simp only [cond_false] at hBr
  clear hx
  clear hF hz ez hp hp2 hn qp' ht hb he
  refine mk h_nacellelaw05_ControlStops rfl rfl ?_
  conv => whnf
  repeat first
    | (refine DRAW.seek ?_; repeat (first | refine TRYD.take ?_ | refine TRYD.next ?_); conv => whnf)
    | (refine HOLD.mk (by first | exact trivial | exact ⟨⟨rfl, rfl⟩, trivial⟩ | exact ⟨⟨rfl, rfl⟩, ⟨rfl, rfl⟩, trivial⟩) ?_; (conv => whnf))
    | (refine CALL0.cutBy lvStops _ _ _ _ _ (leL_refl _) (hS ..) rfl ?_; conv => whnf)
    | (refine CALL0.by (hS ..) rfl ?_; conv => whnf)
    | (refine CALLQ.mk _ _ _ (leL_refl _) (hS ..) rfl ?_; conv => whnf)
  split
  · rename_i h
    exact Bool.noConfusion ((ql).symm.trans h)
  rename_i hN
  clear hN
  conv => whnf
  repeat first
    | (refine DRAW.seek ?_; repeat (first | refine TRYD.take ?_ | refine TRYD.next ?_); conv => whnf)
    | (refine HOLD.mk (by first | exact trivial | exact ⟨⟨rfl, rfl⟩, trivial⟩ | exact ⟨⟨rfl, rfl⟩, ⟨rfl, rfl⟩, trivial⟩) ?_; (conv => whnf))
    | (refine CALL0.cutBy lvStops _ _ _ _ _ (leL_refl _) (c_machine ..) rfl ?_; conv => whnf)
    | (refine CALL0.by (c_machine ..) rfl ?_; conv => whnf)
    | (refine CALLQ.mk _ _ _ (leL_refl _) (c_machine ..) rfl ?_; conv => whnf)
    | (refine CALL0.cutBy lvStops _ _ _ _ _ (leL_refl _) (c_state ..) rfl ?_; conv => whnf)
    | (refine CALL0.by (c_state ..) rfl ?_; conv => whnf)
    | (refine CALLQ.mk _ _ _ (leL_refl _) (c_state ..) rfl ?_; conv => whnf)
    | (refine CALL0.cutBy lvStops _ _ _ _ _ (leL_refl _) (hBr ..) rfl ?_; conv => whnf)
    | (refine CALL0.by (hBr ..) rfl ?_; conv => whnf)
    | (refine CALLQ.mk _ _ _ (leL_refl _) (hBr ..) rfl ?_; conv => whnf)
    | (refine CALL0.cutBy lvStops _ _ _ _ _ (leL_refl _) (hSt ..) rfl ?_; conv => whnf)
    | (refine CALL0.by (hSt ..) rfl ?_; conv => whnf)
    | (refine CALLQ.mk _ _ _ (leL_refl _) (hSt ..) rfl ?_; conv => whnf)
    | (refine CALL0.cutBy lvStops _ _ _ _ _ (leL_refl _) (hPk ..) rfl ?_; conv => whnf)
    | (refine CALL0.by (hPk ..) rfl ?_; conv => whnf)
    | (refine CALLQ.mk _ _ _ (leL_refl _) (hPk ..) rfl ?_; conv => whnf)
    | (refine CALL0.cutBy lvStops _ _ _ _ _ (leL_refl _) (hSf ..) rfl ?_; conv => whnf)
    | (refine CALL0.by (hSf ..) rfl ?_; conv => whnf)
    | (refine CALLQ.mk _ _ _ (leL_refl _) (hSf ..) rfl ?_; conv => whnf)
    | (refine CALL0.cutBy lvStops _ _ _ _ _ (leL_refl _) (hCS ..) rfl ?_; conv => whnf)
    | (refine CALL0.by (hCS ..) rfl ?_; conv => whnf)
    | (refine CALLQ.mk _ _ _ (leL_refl _) (hCS ..) rfl ?_; conv => whnf)
  repeat first
    | (refine DRAW.seek ?_; repeat (first | refine TRYD.take ?_ | refine TRYD.next ?_); conv => whnf)
    | (refine HOLD.mk (by first | exact trivial | exact ⟨⟨rfl, rfl⟩, trivial⟩ | exact ⟨⟨rfl, rfl⟩, ⟨rfl, rfl⟩, trivial⟩) ?_; (conv => whnf))
    | (refine CALL0.cutBy lvStops _ _ _ _ _ (leL_refl _) (hW ..) rfl ?_; conv => whnf)
    | (refine CALL0.by (hW ..) rfl ?_; conv => whnf)
    | (refine CALLQ.mk _ _ _ (leL_refl _) (hW ..) rfl ?_; conv => whnf)
    | (refine CALL0.cutBy lvStops _ _ _ _ _ (leL_refl _) (hB ..) rfl ?_; conv => whnf)
    | (refine CALL0.by (hB ..) rfl ?_; conv => whnf)
    | (refine CALLQ.mk _ _ _ (leL_refl _) (hB ..) rfl ?_; conv => whnf)
  refine CALL0.cutBy lvStops _ _ _ _ _ (leL_refl _) (hF1 _ _ rfl rfl) rfl ?_
  conv => whnf
  repeat first
    | (refine DRAW.seek ?_; repeat (first | refine TRYD.take ?_ | refine TRYD.next ?_); conv => whnf)
    | (refine HOLD.mk (by first | exact trivial | exact ⟨⟨rfl, rfl⟩, trivial⟩ | exact ⟨⟨rfl, rfl⟩, ⟨rfl, rfl⟩, trivial⟩) ?_; (conv => whnf))
    | (refine CALL0.cutBy lvStops _ _ _ _ _ (leL_refl _) (hB ..) rfl ?_; conv => whnf)
    | (refine CALL0.by (hB ..) rfl ?_; conv => whnf)
    | (refine CALLQ.mk _ _ _ (leL_refl _) (hB ..) rfl ?_; conv => whnf)
  refine CALL0.cutBy lvStops _ _ _ _ _ (leL_refl _) (hF2 _ _ rfl rfl) rfl ?_
  conv => whnf
  repeat first
    | (refine DRAW.seek ?_; repeat (first | refine TRYD.take ?_ | refine TRYD.next ?_); conv => whnf)
    | (refine HOLD.mk (by first | exact trivial | exact ⟨⟨rfl, rfl⟩, trivial⟩ | exact ⟨⟨rfl, rfl⟩, ⟨rfl, rfl⟩, trivial⟩) ?_; (conv => whnf))
    | (refine CALL0.cutBy lvStops _ _ _ _ _ (leL_refl _) (hrB ..) rfl ?_; conv => whnf)
    | (refine CALL0.by (hrB ..) rfl ?_; conv => whnf)
    | (refine CALLQ.mk _ _ _ (leL_refl _) (hrB ..) rfl ?_; conv => whnf)
  split
  · rename_i h
    exact Bool.noConfusion ((qf).symm.trans h)
  rename_i hN
  clear hN
  conv => whnf
  repeat first
    | (refine DRAW.seek ?_; repeat (first | refine TRYD.take ?_ | refine TRYD.next ?_); conv => whnf)
    | (refine HOLD.mk (by first | exact trivial | exact ⟨⟨rfl, rfl⟩, trivial⟩ | exact ⟨⟨rfl, rfl⟩, ⟨rfl, rfl⟩, trivial⟩) ?_; (conv => whnf))
    | (refine CALL0.cutBy lvStops _ _ _ _ _ (leL_refl _) (hrP ..) rfl ?_; conv => whnf)
    | (refine CALL0.by (hrP ..) rfl ?_; conv => whnf)
    | (refine CALLQ.mk _ _ _ (leL_refl _) (hrP ..) rfl ?_; conv => whnf)
    | (refine CALL0.cutBy lvStops _ _ _ _ _ (leL_refl _) (hrT ..) rfl ?_; conv => whnf)
    | (refine CALL0.by (hrT ..) rfl ?_; conv => whnf)
    | (refine CALLQ.mk _ _ _ (leL_refl _) (hrT ..) rfl ?_; conv => whnf)
  split
  rotate_left
  · rename_i h
    exact Bool.noConfusion ((qp).symm.trans h)
  rename_i hN
  clear hN
  conv => whnf
  repeat first
    | (refine DRAW.seek ?_; repeat (first | refine TRYD.take ?_ | refine TRYD.next ?_); conv => whnf)
    | (refine HOLD.mk (by first | exact trivial | exact ⟨⟨rfl, rfl⟩, trivial⟩ | exact ⟨⟨rfl, rfl⟩, ⟨rfl, rfl⟩, trivial⟩) ?_; (conv => whnf))
    | (refine CALL0.cutBy lvStops _ _ _ _ _ (leL_refl _) (hrS ..) rfl ?_; conv => whnf)
    | (refine CALL0.by (hrS ..) rfl ?_; conv => whnf)
    | (refine CALLQ.mk _ _ _ (leL_refl _) (hrS ..) rfl ?_; conv => whnf)
  split
  rotate_left
  · rename_i h
    exact Bool.noConfusion ((ex).symm.trans h)
  rename_i hN
  clear hN
  conv => whnf
  repeat first
    | (refine DRAW.seek ?_; repeat (first | refine TRYD.take ?_ | refine TRYD.next ?_); conv => whnf)
    | (refine HOLD.mk (by first | exact trivial | exact ⟨⟨rfl, rfl⟩, trivial⟩ | exact ⟨⟨rfl, rfl⟩, ⟨rfl, rfl⟩, trivial⟩) ?_; (conv => whnf))
    | (refine CALL0.cutBy lvStops _ _ _ _ _ (leL_refl _) (c_toldNil ..) rfl ?_; conv => whnf)
    | (refine CALL0.by (c_toldNil ..) rfl ?_; conv => whnf)
    | (refine CALLQ.mk _ _ _ (leL_refl _) (c_toldNil ..) rfl ?_; conv => whnf)
    | (refine CALL0.cutBy lvStops _ _ _ _ _ (leL_refl _) (c_sameNil ..) rfl ?_; conv => whnf)
    | (refine CALL0.by (c_sameNil ..) rfl ?_; conv => whnf)
    | (refine CALLQ.mk _ _ _ (leL_refl _) (c_sameNil ..) rfl ?_; conv => whnf)
  split
  rotate_left
  · rename_i h
    exact Bool.noConfusion ((ep).symm.trans h)
  rename_i hN
  clear hN
  conv => whnf
  split
  rotate_left
  · rename_i h
    exact Bool.noConfusion ((en).symm.trans h)
  rename_i hN
  clear hN
  conv => whnf
  split
  rotate_left
  · rename_i h
    exact Bool.noConfusion ((eF).symm.trans h)
  rename_i hN
  clear hN
  conv => whnf
  repeat first
    | (refine DRAW.seek ?_; repeat (first | refine TRYD.take ?_ | refine TRYD.next ?_); conv => whnf)
    | (refine HOLD.mk (by first | exact trivial | exact ⟨⟨rfl, rfl⟩, trivial⟩ | exact ⟨⟨rfl, rfl⟩, ⟨rfl, rfl⟩, trivial⟩) ?_; (conv => whnf))
    | (refine CALL0.cutBy lvStops _ _ _ _ _ (leL_refl _) (hA ..) rfl ?_; conv => whnf)
    | (refine CALL0.by (hA ..) rfl ?_; conv => whnf)
    | (refine CALLQ.mk _ _ _ (leL_refl _) (hA ..) rfl ?_; conv => whnf)
  exact ⟨rfl, rfl⟩

theorem c_ControlStops (up : List Ces) (hk : gl g_control_kinds = kindsI) (hg : gl g_internal_strconv_uint64pow10 = powI) (m : Mc) (s : Sta) (a b : Int) :
    Cs gl n_nacellelaw05_ControlStops up [m.iv, s.iv, .agg [.int .i64 a, .int .i64 b]] (.bool true) up := by
  cases hs : m.smallB with
  | false => exact stops_no up hk hg m s a b (.inl hs)
  | true =>
  cases ql : decide ((s.mode.size : Int) > 40) with
  | true => exact stops_no up hk hg m s a b (.inr ql)
  | false =>
  by_cases he : s.err m = 0
  rotate_left
  · exact stops_bad up hk hg m s a b hs ql he
  by_cases hb : withinS b (-1) 2 = 0
  rotate_left
  · exact stops_blade up hk hg m s a b hs ql he hb
  cases qp : decide (s.pk m b > m.lim) with
  | false =>
    by_cases ha : withinS a 0 m.wind = 0
    · cases qf : decide ((s.brakedW m a b).speed > m.lim) with
      | false => exact stops_ok0 up hk hg m s a b hs ql he hb qp ha qf
      | true => exact stops_fast0 up hk hg m s a b hs ql he hb qp ha qf
    · exact stops_bad0 up hk hg m s a b hs ql he hb qp ha
  | true =>
    by_cases ha : withinS a 0 m.wind = 0
    · cases qf : decide ((s.brakedW m a b).speed > m.lim) with
      | false => exact stops_ok1 up hk hg m s a b hs ql he hb qp ha qf
      | true => exact stops_fast1 up hk hg m s a b hs ql he hb qp ha qf
    · exact stops_bad1 up hk hg m s a b hs ql he hb qp ha
end Go.Proofs.YtkdlegfakefjgaaGreatDoor.Ix
