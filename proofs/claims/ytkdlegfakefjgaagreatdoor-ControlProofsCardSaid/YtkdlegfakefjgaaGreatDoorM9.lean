/-
  Ks2: ControlProofs: the law.
-/
import Derived.Test.YtkdlegfakefjgaaGreatDoorM8
namespace Go.Proofs.YtkdlegfakefjgaaGreatDoor.Ix
open Go.Proofs
set_option maxRecDepth 100000
set_option linter.unusedVariables false
set_option linter.unusedSimpArgs false
variable {gl : Nat → IV}

/-- What the reference says of 'n' states of a stop. -/
noncomputable def rcsErr (s : Sta) (m : Mc) (stuck : Int) (n : Nat) (f : Nat → Sta) : Int :=
  bif decide ((n : Int) > 4096) then 5 else bif decide (s.pk m stuck > m.lim) then 22 else bif !sameSt n (1 + s.num m stuck) f (s.stopS m stuck) then 22 else 0

set_option maxHeartbeats 8000000 in
theorem c_rCheckStop (up : List Ces) (m : Mc) (s : Sta) (stuck : Int) (n : Nat) (hn : n ≤ 10000000) (f : Nat → Sta) (hm : m.ok) (hs : s.rng m) (hsp : s.speed ≤ 10000) (h1 : -1 ≤ stuck) (h2 : stuck ≤ 2) :
    Cs gl n_nacelleref05_CheckStop up [m.iv, s.iv, .int .i64 stuck, .lst none 7 n fun i => (f i).cs] (.int .i64 (rcsErr s m stuck n f)) up := by
  have hP := fun up => c_rPeakN (gl := gl) up m s stuck hm hs hsp h1 h2
  have hT := fun up => c_rStopN (gl := gl) up m s stuck hm hs hsp h1 h2
  have hS := fun up => c_rSameStates (gl := gl) up n (1 + s.num m stuck) hn f (s.stopS m stuck)
  refine mk h_nacelleref05_CheckStop rfl rfl ?_
  unfold rcsErr
  cases q0 : decide ((n : Int) > 4096) with
  | true =>
    conv => whnf
    split
    rotate_left
    · rename_i h
      exact Bool.noConfusion ((q0).symm.trans h)
    rename_i hN
    clear hN
    conv => whnf
    exact ⟨rfl, rfl⟩
  | false =>
  cases q1 : decide (s.pk m stuck > m.lim) with
  | true =>
    conv => whnf
    split
    · rename_i h
      exact Bool.noConfusion ((q0).symm.trans h)
    rename_i hN
    clear hN
    conv => whnf
    repeat first
      | (refine DRAW.seek ?_; repeat (first | refine TRYD.take ?_ | refine TRYD.next ?_); conv => whnf)
      | (refine HOLD.mk (by first | exact trivial | exact ⟨⟨rfl, rfl⟩, trivial⟩ | exact ⟨⟨rfl, rfl⟩, ⟨rfl, rfl⟩, trivial⟩) ?_; (conv => whnf))
      | (refine CALL0.by (hP ..) rfl ?_; conv => whnf)
      | (refine CALLQ.mk _ _ _ (leL_refl _) (hP ..) rfl ?_; conv => whnf)
    split
    rotate_left
    · rename_i h
      exact Bool.noConfusion ((q1).symm.trans h)
    rename_i hN
    clear hN
    conv => whnf
    exact ⟨rfl, rfl⟩
  | false =>
  cases q2 : sameSt n (1 + s.num m stuck) f (s.stopS m stuck) with
  | true =>
    rw [q2] at hS
    conv => whnf
    split
    · rename_i h
      exact Bool.noConfusion ((q0).symm.trans h)
    rename_i hN
    clear hN
    conv => whnf
    repeat first
      | (refine DRAW.seek ?_; repeat (first | refine TRYD.take ?_ | refine TRYD.next ?_); conv => whnf)
      | (refine HOLD.mk (by first | exact trivial | exact ⟨⟨rfl, rfl⟩, trivial⟩ | exact ⟨⟨rfl, rfl⟩, ⟨rfl, rfl⟩, trivial⟩) ?_; (conv => whnf))
      | (refine CALL0.by (hP ..) rfl ?_; conv => whnf)
      | (refine CALLQ.mk _ _ _ (leL_refl _) (hP ..) rfl ?_; conv => whnf)
    split
    · rename_i h
      exact Bool.noConfusion ((q1).symm.trans h)
    rename_i hN
    clear hN
    conv => whnf
    repeat first
      | (refine DRAW.seek ?_; repeat (first | refine TRYD.take ?_ | refine TRYD.next ?_); conv => whnf)
      | (refine HOLD.mk (by first | exact trivial | exact ⟨⟨rfl, rfl⟩, trivial⟩ | exact ⟨⟨rfl, rfl⟩, ⟨rfl, rfl⟩, trivial⟩) ?_; (conv => whnf))
      | (refine CALL0.by (hT ..) rfl ?_; conv => whnf)
      | (refine CALLQ.mk _ _ _ (leL_refl _) (hT ..) rfl ?_; conv => whnf)
      | (refine CALL0.by (hS ..) rfl ?_; conv => whnf)
      | (refine CALLQ.mk _ _ _ (leL_refl _) (hS ..) rfl ?_; conv => whnf)
    exact ⟨rfl, rfl⟩
  | false =>
    rw [q2] at hS
    conv => whnf
    split
    · rename_i h
      exact Bool.noConfusion ((q0).symm.trans h)
    rename_i hN
    clear hN
    conv => whnf
    repeat first
      | (refine DRAW.seek ?_; repeat (first | refine TRYD.take ?_ | refine TRYD.next ?_); conv => whnf)
      | (refine HOLD.mk (by first | exact trivial | exact ⟨⟨rfl, rfl⟩, trivial⟩ | exact ⟨⟨rfl, rfl⟩, ⟨rfl, rfl⟩, trivial⟩) ?_; (conv => whnf))
      | (refine CALL0.by (hP ..) rfl ?_; conv => whnf)
      | (refine CALLQ.mk _ _ _ (leL_refl _) (hP ..) rfl ?_; conv => whnf)
    split
    · rename_i h
      exact Bool.noConfusion ((q1).symm.trans h)
    rename_i hN
    clear hN
    conv => whnf
    repeat first
      | (refine DRAW.seek ?_; repeat (first | refine TRYD.take ?_ | refine TRYD.next ?_); conv => whnf)
      | (refine HOLD.mk (by first | exact trivial | exact ⟨⟨rfl, rfl⟩, trivial⟩ | exact ⟨⟨rfl, rfl⟩, ⟨rfl, rfl⟩, trivial⟩) ?_; (conv => whnf))
      | (refine CALL0.by (hT ..) rfl ?_; conv => whnf)
      | (refine CALLQ.mk _ _ _ (leL_refl _) (hT ..) rfl ?_; conv => whnf)
      | (refine CALL0.by (hS ..) rfl ?_; conv => whnf)
      | (refine CALLQ.mk _ _ _ (leL_refl _) (hS ..) rfl ?_; conv => whnf)
    exact ⟨rfl, rfl⟩

theorem cs_err (s : Sta) (m : Mc) (stuck : Int) (n : Nat) (f : Nat → Sta) : csErr s m stuck n f = orE (s.err0 m stuck) (rcsErr s m stuck n f) := by
  have e : csErr0 s m stuck n = orE (s.err0 m stuck) (bif decide ((n : Int) > 4096) then 5 else 0) := by
    unfold csErr0 Sta.err0
    simp only [orL, orE_right, orE_assoc]
  unfold csErr
  rw [e]
  by_cases h0 : s.err0 m stuck = 0
  · rw [h0, show ∀ x, orE 0 x = x from fun x => orE_no rfl, show ∀ x, orE 0 x = x from fun x => orE_no rfl]
    unfold rcsErr Sta.pk sameSt
    cases decide ((n : Int) > 4096) with
    | true => rfl
    | false => rfl
  · have q : (s.err0 m stuck != 0) = true := by simpa using h0
    rw [orE_ne q, orE_ne q, q]
    rfl

theorem proofs_no (up : List Ces) (hk : gl g_control_kinds = kindsI) (hg : gl g_internal_strconv_uint64pow10 = powI) (m : Mc) (s : Sta) (a : Int) (n : Nat) (f : Nat → Sta) (hs : m.smallB = false ∨ decide ((s.mode.size : Int) > 40) = true ∨ (decide ((n : Int) > 200) = true ∧ ((n : Int) != 4097) = true)) :
    Cs gl n_nacellelaw05_ControlProofs up [m.iv, s.iv, .agg [.int .i64 a, .lst none 7 n fun i => (f i).cs]] (.bool true) up := by
  refine mk h_nacellelaw05_ControlProofs rfl rfl ?_
  have hS := fun up => c_rSmall (gl := gl) up m
  have hA := fun up => c_awake (gl := gl) up hk hg
  cases qs : m.smallB with
  | false =>
    rw [qs] at hS
    conv => whnf
    repeat first
      | (refine DRAW.seek ?_; repeat (first | refine TRYD.take ?_ | refine TRYD.next ?_); conv => whnf)
      | (refine HOLD.mk (by first | exact trivial | exact ⟨⟨rfl, rfl⟩, trivial⟩ | exact ⟨⟨rfl, rfl⟩, ⟨rfl, rfl⟩, trivial⟩) ?_; (conv => whnf))
      | (refine CALL0.by (hS ..) rfl ?_; conv => whnf)
      | (refine CALLQ.mk _ _ _ (leL_refl _) (hS ..) rfl ?_; conv => whnf)
      | (refine CALL0.by (hA ..) rfl ?_; conv => whnf)
      | (refine CALLQ.mk _ _ _ (leL_refl _) (hA ..) rfl ?_; conv => whnf)
    exact ⟨rfl, rfl⟩
  | true =>
    rw [qs] at hS
    have hs := hs.resolve_left (by rw [qs]; nofun)
    cases ql : decide ((s.mode.size : Int) > 40) with
    | true =>
      conv => whnf
      repeat first
        | (refine DRAW.seek ?_; repeat (first | refine TRYD.take ?_ | refine TRYD.next ?_); conv => whnf)
        | (refine HOLD.mk (by first | exact trivial | exact ⟨⟨rfl, rfl⟩, trivial⟩ | exact ⟨⟨rfl, rfl⟩, ⟨rfl, rfl⟩, trivial⟩) ?_; (conv => whnf))
        | (refine CALL0.by (hS ..) rfl ?_; conv => whnf)
        | (refine CALLQ.mk _ _ _ (leL_refl _) (hS ..) rfl ?_; conv => whnf)
      split
      rotate_left
      · rename_i h
        exact Bool.noConfusion ((ql).symm.trans h)
      rename_i hN
      clear hN
      conv => whnf
      repeat first
        | (refine DRAW.seek ?_; repeat (first | refine TRYD.take ?_ | refine TRYD.next ?_); conv => whnf)
        | (refine HOLD.mk (by first | exact trivial | exact ⟨⟨rfl, rfl⟩, trivial⟩ | exact ⟨⟨rfl, rfl⟩, ⟨rfl, rfl⟩, trivial⟩) ?_; (conv => whnf))
        | (refine CALL0.by (hA ..) rfl ?_; conv => whnf)
        | (refine CALLQ.mk _ _ _ (leL_refl _) (hA ..) rfl ?_; conv => whnf)
      exact ⟨rfl, rfl⟩
    | false =>
      obtain ⟨q1, q2⟩ := hs.resolve_left (by rw [ql]; nofun)
      conv => whnf
      repeat first
        | (refine DRAW.seek ?_; repeat (first | refine TRYD.take ?_ | refine TRYD.next ?_); conv => whnf)
        | (refine HOLD.mk (by first | exact trivial | exact ⟨⟨rfl, rfl⟩, trivial⟩ | exact ⟨⟨rfl, rfl⟩, ⟨rfl, rfl⟩, trivial⟩) ?_; (conv => whnf))
        | (refine CALL0.by (hS ..) rfl ?_; conv => whnf)
        | (refine CALLQ.mk _ _ _ (leL_refl _) (hS ..) rfl ?_; conv => whnf)
      split
      · rename_i h
        exact Bool.noConfusion ((ql).symm.trans h)
      rename_i hN
      clear hN
      conv => whnf
      split
      rotate_left
      · rename_i h
        exact Bool.noConfusion ((q1).symm.trans h)
      rename_i hN
      clear hN
      conv => whnf
      split
      rotate_left
      · rename_i h
        exact Bool.noConfusion ((q2).symm.trans h)
      rename_i hN
      clear hN
      conv => whnf
      repeat first
        | (refine DRAW.seek ?_; repeat (first | refine TRYD.take ?_ | refine TRYD.next ?_); conv => whnf)
        | (refine HOLD.mk (by first | exact trivial | exact ⟨⟨rfl, rfl⟩, trivial⟩ | exact ⟨⟨rfl, rfl⟩, ⟨rfl, rfl⟩, trivial⟩) ?_; (conv => whnf))
        | (refine CALL0.by (hA ..) rfl ?_; conv => whnf)
        | (refine CALLQ.mk _ _ _ (leL_refl _) (hA ..) rfl ?_; conv => whnf)
      exact ⟨rfl, rfl⟩


/-- What is read behind each call. -/
def lvProofs : List (Nat × List Nat) := [(10, [3, 4, 5, 6, 7, 8, 10, 11]), (30, [3, 4, 5, 6, 7, 8, 30]), (32, [3, 4, 5, 6, 7, 8, 32]), (34, [3, 4, 5, 6, 7, 8, 32, 34]), (39, [3, 4, 5, 6, 7, 8, 32, 34, 36, 39]), (40, [3, 4, 5, 6, 7, 8, 40]), (43, [3, 4, 5, 6, 7, 8, 43]), (46, [3, 4, 5, 6, 7, 8, 43, 46]), (48, [3, 4, 5, 6, 7, 8, 48]), (57, [6, 7, 8, 57]), (62, [6, 61, 62])]
set_option maxHeartbeats 16000000 in
theorem proofs_yes (up : List Ces) (hk : gl g_control_kinds = kindsI) (hg : gl g_internal_strconv_uint64pow10 = powI) (m : Mc) (s : Sta) (a : Int) (n : Nat) (f : Nat → Sta) (hs : m.smallB = true) (ql : decide ((s.mode.size : Int) > 40) = false) (qn : decide ((n : Int) > 200) = false ∨ (decide ((n : Int) > 200) = true ∧ ((n : Int) != 4097) = false)) :
    Cs gl n_nacellelaw05_ControlProofs up [m.iv, s.iv, .agg [.int .i64 a, .lst none 7 n fun i => (f i).cs]] (.bool true) up := by
  have hn : n ≤ 10000000 := by
    rcases qn with h | ⟨_, h⟩
    · have := of_decide_eq_false h; omega
    · have : (n : Int) = 4097 := by simpa using h
      omega
  have hS := fun up => c_rSmall (gl := gl) up m
  rw [hs] at hS
  have hA := fun up => c_awake (gl := gl) up hk hg
  have hSt := fun up => c_states (gl := gl) up n hn f
  have hCS := fun up => c_CheckStop (gl := gl) up s m a n hn f
  rw [cs_err] at hCS
  have hSta := fun up => c_rState (gl := gl) up m s
  have hB := fun up => c_rBlade (gl := gl) up a
  have hF := fun up f h0 h1 => c_rl2 (gl := gl) up f (s.err m) (withinS a (-1) 2) h0 h1
  rw [← show s.err0 m a = orL [s.err m, withinS a (-1) 2] from rfl] at hF
  obtain ⟨E, hE⟩ : ∃ E, E = s.err0 m a := ⟨_, rfl⟩
  rw [← hE] at hCS hF
  by_cases h0 : E = 0
  · have h1 := h0
    rw [hE] at h1
    obtain ⟨g1, g2, g3⟩ := err0_ok h1
    obtain ⟨hm, hr, hl, _⟩ := Sta.err_rng g1
    have hlim := hm.lim
    have hrC := fun up => c_rCheckStop (gl := gl) up m s a n hn f hm hr (by omega) g2 g3
    rw [h0, show ∀ x, orE 0 x = x from fun x => orE_no rfl] at hCS
    obtain ⟨R, hR⟩ : ∃ R, R = rcsErr s m a n f := ⟨_, rfl⟩
    rw [← hR] at hCS hrC
    rw [h0] at hF
    have eR : (R == R) = true := beq_self_eq_true R
    clear h0 h1 hE hR g1
    rcases qn with q1 | ⟨q1, q2⟩
    · refine mk h_nacellelaw05_ControlProofs rfl rfl ?_
      conv => whnf
      repeat first
        | (refine DRAW.seek ?_; repeat (first | refine TRYD.take ?_ | refine TRYD.next ?_); conv => whnf)
        | (refine HOLD.mk (by first | exact trivial | exact ⟨⟨rfl, rfl⟩, trivial⟩ | exact ⟨⟨rfl, rfl⟩, ⟨rfl, rfl⟩, trivial⟩) ?_; (conv => whnf))
        | (refine CALL0.cutBy lvProofs _ _ _ _ _ (leL_refl _) (hS ..) rfl ?_; conv => whnf)
        | (refine CALL0.by (hS ..) rfl ?_; conv => whnf)
        | (refine CALLQ.mk _ _ _ (leL_refl _) (hS ..) rfl ?_; conv => whnf)
      split
      · rename_i h
        exact Bool.noConfusion ((ql).symm.trans h)
      rename_i hN
      clear hN
      conv => whnf
      split
      · rename_i h
        exact Bool.noConfusion ((q1).symm.trans h)
      rename_i hN
      clear hN
      conv => whnf
      repeat first
        | (refine DRAW.seek ?_; repeat (first | refine TRYD.take ?_ | refine TRYD.next ?_); conv => whnf)
        | (refine HOLD.mk (by first | exact trivial | exact ⟨⟨rfl, rfl⟩, trivial⟩ | exact ⟨⟨rfl, rfl⟩, ⟨rfl, rfl⟩, trivial⟩) ?_; (conv => whnf))
        | (refine CALL0.cutBy lvProofs _ _ _ _ _ (leL_refl _) (c_machine ..) rfl ?_; conv => whnf)
        | (refine CALL0.by (c_machine ..) rfl ?_; conv => whnf)
        | (refine CALLQ.mk _ _ _ (leL_refl _) (c_machine ..) rfl ?_; conv => whnf)
        | (refine CALL0.cutBy lvProofs _ _ _ _ _ (leL_refl _) (c_state ..) rfl ?_; conv => whnf)
        | (refine CALL0.by (c_state ..) rfl ?_; conv => whnf)
        | (refine CALLQ.mk _ _ _ (leL_refl _) (c_state ..) rfl ?_; conv => whnf)
        | (refine CALL0.cutBy lvProofs _ _ _ _ _ (leL_refl _) (hSt ..) rfl ?_; conv => whnf)
        | (refine CALL0.by (hSt ..) rfl ?_; conv => whnf)
        | (refine CALLQ.mk _ _ _ (leL_refl _) (hSt ..) rfl ?_; conv => whnf)
        | (refine CALL0.cutBy lvProofs _ _ _ _ _ (leL_refl _) (hCS ..) rfl ?_; conv => whnf)
        | (refine CALL0.by (hCS ..) rfl ?_; conv => whnf)
        | (refine CALLQ.mk _ _ _ (leL_refl _) (hCS ..) rfl ?_; conv => whnf)
        | (refine CALL0.cutBy lvProofs _ _ _ _ _ (leL_refl _) (hSta ..) rfl ?_; conv => whnf)
        | (refine CALL0.by (hSta ..) rfl ?_; conv => whnf)
        | (refine CALLQ.mk _ _ _ (leL_refl _) (hSta ..) rfl ?_; conv => whnf)
        | (refine CALL0.cutBy lvProofs _ _ _ _ _ (leL_refl _) (hB ..) rfl ?_; conv => whnf)
        | (refine CALL0.by (hB ..) rfl ?_; conv => whnf)
        | (refine CALLQ.mk _ _ _ (leL_refl _) (hB ..) rfl ?_; conv => whnf)
      refine CALL0.cutBy lvProofs _ _ _ _ _ (leL_refl _) (hF _ _ rfl rfl) rfl ?_
      conv => whnf
      repeat first
        | (refine DRAW.seek ?_; repeat (first | refine TRYD.take ?_ | refine TRYD.next ?_); conv => whnf)
        | (refine HOLD.mk (by first | exact trivial | exact ⟨⟨rfl, rfl⟩, trivial⟩ | exact ⟨⟨rfl, rfl⟩, ⟨rfl, rfl⟩, trivial⟩) ?_; (conv => whnf))
        | (refine CALL0.cutBy lvProofs _ _ _ _ _ (leL_refl _) (hrC ..) rfl ?_; conv => whnf)
        | (refine CALL0.by (hrC ..) rfl ?_; conv => whnf)
        | (refine CALLQ.mk _ _ _ (leL_refl _) (hrC ..) rfl ?_; conv => whnf)
      split
      rotate_left
      · rename_i h
        exact Bool.noConfusion ((eR).symm.trans h)
      rename_i hN
      clear hN
      conv => whnf
      repeat first
        | (refine DRAW.seek ?_; repeat (first | refine TRYD.take ?_ | refine TRYD.next ?_); conv => whnf)
        | (refine HOLD.mk (by first | exact trivial | exact ⟨⟨rfl, rfl⟩, trivial⟩ | exact ⟨⟨rfl, rfl⟩, ⟨rfl, rfl⟩, trivial⟩) ?_; (conv => whnf))
        | (refine CALL0.cutBy lvProofs _ _ _ _ _ (leL_refl _) (hA ..) rfl ?_; conv => whnf)
        | (refine CALL0.by (hA ..) rfl ?_; conv => whnf)
        | (refine CALLQ.mk _ _ _ (leL_refl _) (hA ..) rfl ?_; conv => whnf)
      exact ⟨rfl, rfl⟩
    · refine mk h_nacellelaw05_ControlProofs rfl rfl ?_
      conv => whnf
      repeat first
        | (refine DRAW.seek ?_; repeat (first | refine TRYD.take ?_ | refine TRYD.next ?_); conv => whnf)
        | (refine HOLD.mk (by first | exact trivial | exact ⟨⟨rfl, rfl⟩, trivial⟩ | exact ⟨⟨rfl, rfl⟩, ⟨rfl, rfl⟩, trivial⟩) ?_; (conv => whnf))
        | (refine CALL0.cutBy lvProofs _ _ _ _ _ (leL_refl _) (hS ..) rfl ?_; conv => whnf)
        | (refine CALL0.by (hS ..) rfl ?_; conv => whnf)
        | (refine CALLQ.mk _ _ _ (leL_refl _) (hS ..) rfl ?_; conv => whnf)
      split
      · rename_i h
        exact Bool.noConfusion ((ql).symm.trans h)
      rename_i hN
      clear hN
      conv => whnf
      split
      rotate_left
      · rename_i h
        exact Bool.noConfusion ((q1).symm.trans h)
      rename_i hN
      clear hN
      conv => whnf
      split
      · rename_i h
        exact Bool.noConfusion ((q2).symm.trans h)
      rename_i hN
      clear hN
      conv => whnf
      repeat first
        | (refine DRAW.seek ?_; repeat (first | refine TRYD.take ?_ | refine TRYD.next ?_); conv => whnf)
        | (refine HOLD.mk (by first | exact trivial | exact ⟨⟨rfl, rfl⟩, trivial⟩ | exact ⟨⟨rfl, rfl⟩, ⟨rfl, rfl⟩, trivial⟩) ?_; (conv => whnf))
        | (refine CALL0.cutBy lvProofs _ _ _ _ _ (leL_refl _) (c_machine ..) rfl ?_; conv => whnf)
        | (refine CALL0.by (c_machine ..) rfl ?_; conv => whnf)
        | (refine CALLQ.mk _ _ _ (leL_refl _) (c_machine ..) rfl ?_; conv => whnf)
        | (refine CALL0.cutBy lvProofs _ _ _ _ _ (leL_refl _) (c_state ..) rfl ?_; conv => whnf)
        | (refine CALL0.by (c_state ..) rfl ?_; conv => whnf)
        | (refine CALLQ.mk _ _ _ (leL_refl _) (c_state ..) rfl ?_; conv => whnf)
        | (refine CALL0.cutBy lvProofs _ _ _ _ _ (leL_refl _) (hSt ..) rfl ?_; conv => whnf)
        | (refine CALL0.by (hSt ..) rfl ?_; conv => whnf)
        | (refine CALLQ.mk _ _ _ (leL_refl _) (hSt ..) rfl ?_; conv => whnf)
        | (refine CALL0.cutBy lvProofs _ _ _ _ _ (leL_refl _) (hCS ..) rfl ?_; conv => whnf)
        | (refine CALL0.by (hCS ..) rfl ?_; conv => whnf)
        | (refine CALLQ.mk _ _ _ (leL_refl _) (hCS ..) rfl ?_; conv => whnf)
        | (refine CALL0.cutBy lvProofs _ _ _ _ _ (leL_refl _) (hSta ..) rfl ?_; conv => whnf)
        | (refine CALL0.by (hSta ..) rfl ?_; conv => whnf)
        | (refine CALLQ.mk _ _ _ (leL_refl _) (hSta ..) rfl ?_; conv => whnf)
        | (refine CALL0.cutBy lvProofs _ _ _ _ _ (leL_refl _) (hB ..) rfl ?_; conv => whnf)
        | (refine CALL0.by (hB ..) rfl ?_; conv => whnf)
        | (refine CALLQ.mk _ _ _ (leL_refl _) (hB ..) rfl ?_; conv => whnf)
      refine CALL0.cutBy lvProofs _ _ _ _ _ (leL_refl _) (hF _ _ rfl rfl) rfl ?_
      conv => whnf
      repeat first
        | (refine DRAW.seek ?_; repeat (first | refine TRYD.take ?_ | refine TRYD.next ?_); conv => whnf)
        | (refine HOLD.mk (by first | exact trivial | exact ⟨⟨rfl, rfl⟩, trivial⟩ | exact ⟨⟨rfl, rfl⟩, ⟨rfl, rfl⟩, trivial⟩) ?_; (conv => whnf))
        | (refine CALL0.cutBy lvProofs _ _ _ _ _ (leL_refl _) (hrC ..) rfl ?_; conv => whnf)
        | (refine CALL0.by (hrC ..) rfl ?_; conv => whnf)
        | (refine CALLQ.mk _ _ _ (leL_refl _) (hrC ..) rfl ?_; conv => whnf)
      split
      rotate_left
      · rename_i h
        exact Bool.noConfusion ((eR).symm.trans h)
      rename_i hN
      clear hN
      conv => whnf
      repeat first
        | (refine DRAW.seek ?_; repeat (first | refine TRYD.take ?_ | refine TRYD.next ?_); conv => whnf)
        | (refine HOLD.mk (by first | exact trivial | exact ⟨⟨rfl, rfl⟩, trivial⟩ | exact ⟨⟨rfl, rfl⟩, ⟨rfl, rfl⟩, trivial⟩) ?_; (conv => whnf))
        | (refine CALL0.cutBy lvProofs _ _ _ _ _ (leL_refl _) (hA ..) rfl ?_; conv => whnf)
        | (refine CALL0.by (hA ..) rfl ?_; conv => whnf)
        | (refine CALLQ.mk _ _ _ (leL_refl _) (hA ..) rfl ?_; conv => whnf)
      exact ⟨rfl, rfl⟩
  · have qE : (E != 0) = true := by simpa using h0
    have zE : (E == 0) = false := by simpa using h0
    rw [orE_ne qE] at hCS
    have eE : (E == E) = true := beq_self_eq_true E
    clear h0 hE
    rcases qn with q1 | ⟨q1, q2⟩
    · refine mk h_nacellelaw05_ControlProofs rfl rfl ?_
      conv => whnf
      repeat first
        | (refine DRAW.seek ?_; repeat (first | refine TRYD.take ?_ | refine TRYD.next ?_); conv => whnf)
        | (refine HOLD.mk (by first | exact trivial | exact ⟨⟨rfl, rfl⟩, trivial⟩ | exact ⟨⟨rfl, rfl⟩, ⟨rfl, rfl⟩, trivial⟩) ?_; (conv => whnf))
        | (refine CALL0.cutBy lvProofs _ _ _ _ _ (leL_refl _) (hS ..) rfl ?_; conv => whnf)
        | (refine CALL0.by (hS ..) rfl ?_; conv => whnf)
        | (refine CALLQ.mk _ _ _ (leL_refl _) (hS ..) rfl ?_; conv => whnf)
      split
      · rename_i h
        exact Bool.noConfusion ((ql).symm.trans h)
      rename_i hN
      clear hN
      conv => whnf
      split
      · rename_i h
        exact Bool.noConfusion ((q1).symm.trans h)
      rename_i hN
      clear hN
      conv => whnf
      repeat first
        | (refine DRAW.seek ?_; repeat (first | refine TRYD.take ?_ | refine TRYD.next ?_); conv => whnf)
        | (refine HOLD.mk (by first | exact trivial | exact ⟨⟨rfl, rfl⟩, trivial⟩ | exact ⟨⟨rfl, rfl⟩, ⟨rfl, rfl⟩, trivial⟩) ?_; (conv => whnf))
        | (refine CALL0.cutBy lvProofs _ _ _ _ _ (leL_refl _) (c_machine ..) rfl ?_; conv => whnf)
        | (refine CALL0.by (c_machine ..) rfl ?_; conv => whnf)
        | (refine CALLQ.mk _ _ _ (leL_refl _) (c_machine ..) rfl ?_; conv => whnf)
        | (refine CALL0.cutBy lvProofs _ _ _ _ _ (leL_refl _) (c_state ..) rfl ?_; conv => whnf)
        | (refine CALL0.by (c_state ..) rfl ?_; conv => whnf)
        | (refine CALLQ.mk _ _ _ (leL_refl _) (c_state ..) rfl ?_; conv => whnf)
        | (refine CALL0.cutBy lvProofs _ _ _ _ _ (leL_refl _) (hSt ..) rfl ?_; conv => whnf)
        | (refine CALL0.by (hSt ..) rfl ?_; conv => whnf)
        | (refine CALLQ.mk _ _ _ (leL_refl _) (hSt ..) rfl ?_; conv => whnf)
        | (refine CALL0.cutBy lvProofs _ _ _ _ _ (leL_refl _) (hCS ..) rfl ?_; conv => whnf)
        | (refine CALL0.by (hCS ..) rfl ?_; conv => whnf)
        | (refine CALLQ.mk _ _ _ (leL_refl _) (hCS ..) rfl ?_; conv => whnf)
        | (refine CALL0.cutBy lvProofs _ _ _ _ _ (leL_refl _) (hSta ..) rfl ?_; conv => whnf)
        | (refine CALL0.by (hSta ..) rfl ?_; conv => whnf)
        | (refine CALLQ.mk _ _ _ (leL_refl _) (hSta ..) rfl ?_; conv => whnf)
        | (refine CALL0.cutBy lvProofs _ _ _ _ _ (leL_refl _) (hB ..) rfl ?_; conv => whnf)
        | (refine CALL0.by (hB ..) rfl ?_; conv => whnf)
        | (refine CALLQ.mk _ _ _ (leL_refl _) (hB ..) rfl ?_; conv => whnf)
      refine CALL0.cutBy lvProofs _ _ _ _ _ (leL_refl _) (hF _ _ rfl rfl) rfl ?_
      conv => whnf
      split
      · rename_i h
        exact Bool.noConfusion ((zE).symm.trans h)
      rename_i hN
      clear hN
      conv => whnf
      split
      rotate_left
      · rename_i h
        exact Bool.noConfusion ((eE).symm.trans h)
      rename_i hN
      clear hN
      conv => whnf
      repeat first
        | (refine DRAW.seek ?_; repeat (first | refine TRYD.take ?_ | refine TRYD.next ?_); conv => whnf)
        | (refine HOLD.mk (by first | exact trivial | exact ⟨⟨rfl, rfl⟩, trivial⟩ | exact ⟨⟨rfl, rfl⟩, ⟨rfl, rfl⟩, trivial⟩) ?_; (conv => whnf))
        | (refine CALL0.cutBy lvProofs _ _ _ _ _ (leL_refl _) (hA ..) rfl ?_; conv => whnf)
        | (refine CALL0.by (hA ..) rfl ?_; conv => whnf)
        | (refine CALLQ.mk _ _ _ (leL_refl _) (hA ..) rfl ?_; conv => whnf)
      exact ⟨rfl, rfl⟩
    · refine mk h_nacellelaw05_ControlProofs rfl rfl ?_
      conv => whnf
      repeat first
        | (refine DRAW.seek ?_; repeat (first | refine TRYD.take ?_ | refine TRYD.next ?_); conv => whnf)
        | (refine HOLD.mk (by first | exact trivial | exact ⟨⟨rfl, rfl⟩, trivial⟩ | exact ⟨⟨rfl, rfl⟩, ⟨rfl, rfl⟩, trivial⟩) ?_; (conv => whnf))
        | (refine CALL0.cutBy lvProofs _ _ _ _ _ (leL_refl _) (hS ..) rfl ?_; conv => whnf)
        | (refine CALL0.by (hS ..) rfl ?_; conv => whnf)
        | (refine CALLQ.mk _ _ _ (leL_refl _) (hS ..) rfl ?_; conv => whnf)
      split
      · rename_i h
        exact Bool.noConfusion ((ql).symm.trans h)
      rename_i hN
      clear hN
      conv => whnf
      split
      rotate_left
      · rename_i h
        exact Bool.noConfusion ((q1).symm.trans h)
      rename_i hN
      clear hN
      conv => whnf
      split
      · rename_i h
        exact Bool.noConfusion ((q2).symm.trans h)
      rename_i hN
      clear hN
      conv => whnf
      repeat first
        | (refine DRAW.seek ?_; repeat (first | refine TRYD.take ?_ | refine TRYD.next ?_); conv => whnf)
        | (refine HOLD.mk (by first | exact trivial | exact ⟨⟨rfl, rfl⟩, trivial⟩ | exact ⟨⟨rfl, rfl⟩, ⟨rfl, rfl⟩, trivial⟩) ?_; (conv => whnf))
        | (refine CALL0.cutBy lvProofs _ _ _ _ _ (leL_refl _) (c_machine ..) rfl ?_; conv => whnf)
        | (refine CALL0.by (c_machine ..) rfl ?_; conv => whnf)
        | (refine CALLQ.mk _ _ _ (leL_refl _) (c_machine ..) rfl ?_; conv => whnf)
        | (refine CALL0.cutBy lvProofs _ _ _ _ _ (leL_refl _) (c_state ..) rfl ?_; conv => whnf)
        | (refine CALL0.by (c_state ..) rfl ?_; conv => whnf)
        | (refine CALLQ.mk _ _ _ (leL_refl _) (c_state ..) rfl ?_; conv => whnf)
        | (refine CALL0.cutBy lvProofs _ _ _ _ _ (leL_refl _) (hSt ..) rfl ?_; conv => whnf)
        | (refine CALL0.by (hSt ..) rfl ?_; conv => whnf)
        | (refine CALLQ.mk _ _ _ (leL_refl _) (hSt ..) rfl ?_; conv => whnf)
        | (refine CALL0.cutBy lvProofs _ _ _ _ _ (leL_refl _) (hCS ..) rfl ?_; conv => whnf)
        | (refine CALL0.by (hCS ..) rfl ?_; conv => whnf)
        | (refine CALLQ.mk _ _ _ (leL_refl _) (hCS ..) rfl ?_; conv => whnf)
        | (refine CALL0.cutBy lvProofs _ _ _ _ _ (leL_refl _) (hSta ..) rfl ?_; conv => whnf)
        | (refine CALL0.by (hSta ..) rfl ?_; conv => whnf)
        | (refine CALLQ.mk _ _ _ (leL_refl _) (hSta ..) rfl ?_; conv => whnf)
        | (refine CALL0.cutBy lvProofs _ _ _ _ _ (leL_refl _) (hB ..) rfl ?_; conv => whnf)
        | (refine CALL0.by (hB ..) rfl ?_; conv => whnf)
        | (refine CALLQ.mk _ _ _ (leL_refl _) (hB ..) rfl ?_; conv => whnf)
      refine CALL0.cutBy lvProofs _ _ _ _ _ (leL_refl _) (hF _ _ rfl rfl) rfl ?_
      conv => whnf
      split
      · rename_i h
        exact Bool.noConfusion ((zE).symm.trans h)
      rename_i hN
      clear hN
      conv => whnf
      split
      rotate_left
      · rename_i h
        exact Bool.noConfusion ((eE).symm.trans h)
      rename_i hN
      clear hN
      conv => whnf
      repeat first
        | (refine DRAW.seek ?_; repeat (first | refine TRYD.take ?_ | refine TRYD.next ?_); conv => whnf)
        | (refine HOLD.mk (by first | exact trivial | exact ⟨⟨rfl, rfl⟩, trivial⟩ | exact ⟨⟨rfl, rfl⟩, ⟨rfl, rfl⟩, trivial⟩) ?_; (conv => whnf))
        | (refine CALL0.cutBy lvProofs _ _ _ _ _ (leL_refl _) (hA ..) rfl ?_; conv => whnf)
        | (refine CALL0.by (hA ..) rfl ?_; conv => whnf)
        | (refine CALLQ.mk _ _ _ (leL_refl _) (hA ..) rfl ?_; conv => whnf)
      exact ⟨rfl, rfl⟩

theorem c_ControlProofs (up : List Ces) (hk : gl g_control_kinds = kindsI) (hg : gl g_internal_strconv_uint64pow10 = powI) (m : Mc) (s : Sta) (a : Int) (n : Nat) (f : Nat → Sta) :
    Cs gl n_nacellelaw05_ControlProofs up [m.iv, s.iv, .agg [.int .i64 a, .lst none 7 n fun i => (f i).cs]] (.bool true) up := by
  cases hs : m.smallB with
  | false => exact proofs_no up hk hg m s a n f (.inl hs)
  | true =>
  cases ql : decide ((s.mode.size : Int) > 40) with
  | true => exact proofs_no up hk hg m s a n f (.inr (.inl ql))
  | false =>
  cases q1 : decide ((n : Int) > 200) with
  | false => exact proofs_yes up hk hg m s a n f hs ql (.inl q1)
  | true =>
  cases q2 : ((n : Int) != 4097) with
  | true => exact proofs_no up hk hg m s a n f (.inr (.inr ⟨q1, q2⟩))
  | false => exact proofs_yes up hk hg m s a n f hs ql (.inr ⟨q1, q2⟩)
end Go.Proofs.YtkdlegfakefjgaaGreatDoor.Ix
