/-
  Cp9: what 'propose' proposes is allowed, and keeps the run going.
-/
import Derived.Test.YtkdlegfakefjgaaGreatDoorM8
namespace Go.Proofs.YtkdlegfakefjgaaGreatDoor.Ix
open Go.Proofs
set_option linter.unusedVariables false
set_option linter.unusedSimpArgs false

theorem run_not_stop : sRun ≠ sStop := fun h => by have := eqS_iff.2 h; rw [show eqS sRun sStop = false from kinds_ne (eqS_iff.2 rfl) (by decide)] at this; cases this
theorem idle_not_stop : sIdle ≠ sStop := fun h => by have := eqS_iff.2 h; rw [show eqS sIdle sStop = false from kinds_ne (eqS_iff.2 rfl) (by decide)] at this; cases this

theorem stop_great {m : Mc} (hm : m.ok) {s : Sta} (hs : s.great m) (hmo : s.mode = sRun) : (s.behindW m (plainA sStop)).great m := by
  obtain ⟨al, bh⟩ := stop_allowed (m := m) hmo
  have hg := behind_good hm hs.good (plain_ok hm sStop) al
  refine ⟨hg, fun _ k hk => ?_⟩
  have hsafe := safeN_iff.1 (hs.good.safe (eqS_iff.2 hmo)) k hk
  have hi := hs.good.inv
  have hl := hm.lim
  have hil := hi.lim
  rw [bh]
  rcases hsafe with h | h
  · exact .inl h
  · right
    have hle : ({ s with mode := sStop, tor := 0 } : Sta).le s := ⟨Int.le_refl _, Int.le_refl _, Int.le_refl _, Int.le_refl _⟩
    have := pk_le hm hm rfl rfl (Int.le_refl _) (k := (k : Nat)) (k' := (k : Nat)) (by omega) (by omega) (by omega) (by omega) (.inl rfl) (s := { s with mode := sStop, tor := 0 }) ⟨hi.rng.speed, hi.rng.p0, hi.rng.p1, hi.rng.p2⟩ hi.rng (by show s.speed ≤ _; omega) (by omega) hle
    omega

theorem behind_great {m : Mc} (hm : m.ok) {s : Sta} (hs : s.great m) {a : Ac} (ha : a.ok m) (al : s.allowedN m a = 0) (hmode : (s.behindW m a).mode ≠ sStop) : (s.behindW m a).great m :=
  ⟨behind_good hm hs.good ha al, fun h => absurd h hmode⟩

theorem brake_great {m : Mc} (hm : m.ok) {s : Sta} (hs : s.great m) (hmo : s.mode = sStop) {w : Int} (hw : 0 ≤ w ∧ w ≤ m.wind) : s.allowedN m ⟨sBrake, w, 0, 0, s.stuck⟩ = 0 ∧ (s.behindW m ⟨sBrake, w, 0, 0, s.stuck⟩).great m := by
  have hi := hs.good.inv
  have hf := hm.fea
  have ht := hm.tor
  obtain ⟨k1, k2, k3⟩ := brake_keeps hm hi (hs.stop hmo) hw
  obtain ⟨al, bh⟩ := brake_allowed (m := m) hmo (w := w) (k := s.stuck) (b := s.stuck) (.inl rfl) (.inr rfl) k2
  refine ⟨al, behind_good hm hs.good ⟨hw, ⟨Int.le_refl _, by show (0 : Int) ≤ _; omega⟩, ⟨Int.le_refl _, by show (0 : Int) ≤ _; omega⟩, hi.stuck⟩ al, fun _ k hk => ?_⟩
  rw [bh, k1]
  exact k3 k hk

theorem propose_great {m : Mc} (hm : m.ok) {s : Sta} (hs : s.great m) {w : Int} (hw : 0 ≤ w ∧ w ≤ m.wind) : s.allowedN m (s.proposeW m w) = 0 ∧ (s.proposeW m w).ok m ∧ (s.behindW m (s.proposeW m w)).great m := by
  have hi := hs.good.inv
  have hl := hm.lim
  have hil := hi.lim
  have hf := hm.fea
  have ht := hm.tor
  have hsp : 0 ≤ s.speed ∧ s.speed ≤ 10000 := ⟨hi.rng.speed.1, by omega⟩
  have tick : ∀ p, 0 ≤ p ∧ p ≤ m.fea → s.allowedN m (s.tickA w p (s.torW m)) = 0 → s.allowedN m (s.tickA w p (s.torW m)) = 0 ∧ (s.tickA w p (s.torW m)).ok m ∧ (s.behindW m (s.tickA w p (s.torW m))).great m := fun p hp al => by
    have ha := tick_ok hm hsp hi.stuck hw hp
    refine ⟨al, ha, behind_great hm hs ha al ?_⟩
    have hr := (rule_mode al).2.1 (.inl (eqS_iff.2 rfl))
    have k0 : eqS sTick sStart = false := kinds_ne (eqS_iff.2 rfl) (by decide)
    have : (s.behindW m (s.tickA w p (s.torW m))).mode = s.mode := by
      unfold Sta.behindW
      show (bif eqS sTick sStart then _ else bif eqS sTick sTick then _ else _ : Sta).mode = _
      rw [k0, eq_self]; rfl
    rw [this, eqS_iff.1 hr]
    exact run_not_stop
  unfold Sta.proposeW
  cases q1 : eqS s.mode sIdle with
  | true =>
    have hid := eqS_iff.1 q1
    rw [start_rule q1]
    have e := start_is (m := m) q1
    cases q2 : s.ruleN m (plainA sStart) 3 with
    | true =>
      have al := repair_is (m := m) q1
      refine ⟨al, plain_ok hm _, behind_great hm hs (plain_ok hm _) al ?_⟩
      have k0 : eqS sRepair sStart = false := kinds_ne (eqS_iff.2 rfl) (by decide)
      have k1 : eqS sRepair sTick = false := kinds_ne (eqS_iff.2 rfl) (by decide)
      have k2 : eqS sRepair sStop = false := kinds_ne (eqS_iff.2 rfl) (by decide)
      have k3 : eqS sRepair sBrake = false := kinds_ne (eqS_iff.2 rfl) (by decide)
      have k4 : eqS sRepair sRest = false := kinds_ne (eqS_iff.2 rfl) (by decide)
      have : (s.behindW m (plainA sRepair)).mode = s.mode := by
        unfold Sta.behindW
        show (bif eqS sRepair sStart then _ else bif eqS sRepair sTick then _ else bif eqS sRepair sStop then _ else bif eqS sRepair sBrake then _ else bif eqS sRepair sRest then _ else bif eqS sRepair sRepair then _ else _ : Sta).mode = _
        rw [k0, k1, k2, k3, k4, eq_self]; rfl
      show (s.behindW m (plainA sRepair)).mode ≠ sStop
      rw [this, hid]
      exact idle_not_stop
    | false =>
      rw [q2] at e
      refine ⟨e, plain_ok hm _, behind_great hm hs (plain_ok hm _) e ?_⟩
      have : (s.behindW m (plainA sStart)).mode = sRun := by
        unfold Sta.behindW
        show (bif eqS sStart sStart then _ else _ : Sta).mode = _
        rw [eq_self]; rfl
      show (s.behindW m (plainA sStart)).mode ≠ sStop
      rw [this]
      exact run_not_stop
  | false =>
  cases q3 : eqS s.mode sStop with
  | true =>
    have hmo := eqS_iff.1 q3
    cases q4 : (s.allowedN m (plainA sRest) == 0) with
    | true =>
      have al : s.allowedN m (plainA sRest) = 0 := by simpa using q4
      refine ⟨al, plain_ok hm _, behind_great hm hs (plain_ok hm _) al ?_⟩
      have : (s.behindW m (plainA sRest)).mode = sIdle := by
        have k0 : eqS sRest sStart = false := kinds_ne (eqS_iff.2 rfl) (by decide)
        have k1 : eqS sRest sTick = false := kinds_ne (eqS_iff.2 rfl) (by decide)
        have k2 : eqS sRest sStop = false := kinds_ne (eqS_iff.2 rfl) (by decide)
        have k3 : eqS sRest sBrake = false := kinds_ne (eqS_iff.2 rfl) (by decide)
        unfold Sta.behindW
        show (bif eqS sRest sStart then _ else bif eqS sRest sTick then _ else bif eqS sRest sStop then _ else bif eqS sRest sBrake then _ else bif eqS sRest sRest then _ else _ : Sta).mode = _
        rw [k0, k1, k2, k3, eq_self]; rfl
      show (s.behindW m (plainA sRest)).mode ≠ sStop
      rw [this]
      exact idle_not_stop
    | false =>
      obtain ⟨al, hg⟩ := brake_great hm hs hmo hw
      exact ⟨al, ⟨hw, ⟨Int.le_refl _, by show (0 : Int) ≤ _; omega⟩, ⟨Int.le_refl _, by show (0 : Int) ≤ _; omega⟩, hi.stuck⟩, hg⟩
  | false =>
    cases q5 : (s.allowedN m (s.tickA w (s.pitchW m) (s.torW m)) == 0) with
    | true => exact tick _ (pitch_rng hm s) (by simpa using q5)
    | false =>
    cases q6 : (s.allowedN m (s.tickA w m.fea (s.torW m)) == 0) with
    | true => exact tick _ ⟨by omega, Int.le_refl _⟩ (by simpa using q6)
    | false =>
      have hmo : s.mode = sRun := by
        obtain ⟨_, _, _, _, _, hk, _⟩ := Sta.err_rng hs.good.err
        rw [known_has, hasW_modes, q1, q3] at hk
        exact eqS_iff.1 (by simpa using hk)
      exact ⟨(stop_allowed (m := m) hmo).1, plain_ok hm _, stop_great hm hs hmo⟩
end Go.Proofs.YtkdlegfakefjgaaGreatDoor.Ix

/-
  Ca16: control.Run and what it computes.
-/
namespace Go.Proofs.YtkdlegfakefjgaaGreatDoor.Ix
open Go.Proofs
set_option maxRecDepth 100000
set_option linter.unusedVariables false
set_option linter.unusedSimpArgs false
variable {gl : Nat → IV}

/-- The states of a run, and its acts. -/
noncomputable def runW (m : Mc) (w : Nat → Int) : Nat → Sta
  | 0 => beginS m
  | i + 1 => (runW m w i).behindW m ((runW m w i).proposeW m (w i))
noncomputable def actW (m : Mc) (w : Nat → Int) (i : Nat) : Ac := (runW m w i).proposeW m (w i)

theorem begin_great {m : Mc} (hm : m.ok) : (beginS m).great m := ⟨begin_good hm, fun h => absurd h idle_not_stop⟩

theorem run_great {m : Mc} (hm : m.ok) {n : Nat} {w : Nat → Int} (hw : ∀ i, i < n → 0 ≤ w i ∧ w i ≤ m.wind) : ∀ i, i ≤ n → (runW m w i).great m
  | 0, _ => begin_great hm
  | i + 1, h => (propose_great hm (run_great hm hw i (by omega)) (hw i (by omega))).2.2

theorem c_f104 (A B : Ces) (up : List Ces) (d : Nat) (m : Mc) (hc : lookC B d = some m.cs) (x : Int) : Cs gl n_control_Run_1 (A :: B :: up) [.int .i64 x, .ptr 2 d 0] (.int .i64 (withinS x 0 m.wind)) (A :: B :: up) := by
  refine mk h_control_Run_1 rfl rfl ?_
  conv => whnf
  split
  rotate_left
  · rename_i h; exact absurd (hc.symm.trans h) nofun
  rename_i c0 h
  obtain rfl := Option.some.inj (hc.symm.trans h)
  clear h
  conv => whnf
  refine .mk _ _ _ _ _ (leL_refl _) (c_within _ _ _ _) rfl ?_
  conv => whnf
  exact ⟨rfl, rfl⟩

def winds0 (m : Mc) (n : Nat) (w : Nat → Int) : Int := firstS (fun i => withinS (w i) 0 m.wind) n 0
def tgR : Nat → Nat
  | 0 => 33
  | _ + 1 => 49
noncomputable def runR (m : Mc) (n : Nat) (w : Nat → Int) : IV :=
  bif repE0 m n != 0 then .tup [.nilS, .int .i64 (repE0 m n)] else
  bif winds0 m n w != 0 then .tup [.nilS, .int .i64 (winds0 m n w)] else
  .tup [.lst (some (tgR n)) 5 n fun i => (actW m w i).cs, .int .i64 0]

set_option maxHeartbeats 16000000 in
theorem c_Run (up : List Ces) (m : Mc) (n : Nat) (hn : n ≤ 10000000) (w : Nat → Int) :
    Cs gl n_control_Run up [m.iv, .lst none 1 n fun i => [.int .i64 (w i)]] (runR m n w) up := by
  refine mk h_control_Run rfl rfl ?_
  unfold runR
  cases q0 : (repE0 m n != 0) with
  | true =>
    conv => whnf
    repeat first
      | (refine DRAW.seek ?_; repeat (first | refine TRYD.take ?_ | refine TRYD.next ?_); conv => whnf)
      | (refine HOLD.mk (by first | exact trivial | exact ⟨⟨rfl, rfl⟩, trivial⟩ | exact ⟨⟨rfl, rfl⟩, ⟨rfl, rfl⟩, trivial⟩) ?_; (conv => whnf))
      | (refine CALL0.by (c_CheckMachine ..) rfl ?_; conv => whnf)
      | (refine CALLQ.mk _ _ _ (leL_refl _) (c_CheckMachine ..) rfl ?_; conv => whnf)
      | (refine CALL0.by (c_when ..) rfl ?_; conv => whnf)
      | (refine CALLQ.mk _ _ _ (leL_refl _) (c_when ..) rfl ?_; conv => whnf)
    refine .mk _ _ _ _ _ (leL_refl _) (c_f2 _ _ _ _ rfl rfl) rfl ?_
    conv => whnf
    split
    rotate_left
    · rename_i h
      exact Bool.noConfusion ((q0).symm.trans h)
    rename_i hN
    clear hN
    conv => whnf
    exact ⟨rfl, rfl⟩
  | false =>
  rw [cond_false]
  have h0 : repE0 m n = 0 := by simpa using q0
  unfold repE0 at h0
  rw [orL_zero] at h0
  have hm : m.ok := Mc.err_ok (h0 _ (by simp))
  have hn2 : n ≤ 1024 := by
    have := h0 (bif decide ((n : Int) > 1024) then 5 else 0) (by simp)
    cases q : decide ((n : Int) > 1024) with
    | true => rw [q] at this; cases this
    | false => have := of_decide_eq_false q; omega
  obtain ⟨E, hE⟩ : ∃ E, E = winds0 m n w := ⟨_, rfl⟩
  have hF := fun up => c_first (gl := gl) up n (by omega) (fun i => withinS (w i) 0 m.wind)
  rw [show firstS (fun i => withinS (w i) 0 m.wind) n 0 = E from hE.symm] at hF
  rw [← hE]
  cases q1 : (E != 0) with
  | true =>
    conv => whnf
    repeat first
      | (refine DRAW.seek ?_; repeat (first | refine TRYD.take ?_ | refine TRYD.next ?_); conv => whnf)
      | (refine HOLD.mk (by first | exact trivial | exact ⟨⟨rfl, rfl⟩, trivial⟩ | exact ⟨⟨rfl, rfl⟩, ⟨rfl, rfl⟩, trivial⟩) ?_; (conv => whnf))
      | (refine CALL0.by (c_CheckMachine ..) rfl ?_; conv => whnf)
      | (refine CALLQ.mk _ _ _ (leL_refl _) (c_CheckMachine ..) rfl ?_; conv => whnf)
      | (refine CALL0.by (c_when ..) rfl ?_; conv => whnf)
      | (refine CALLQ.mk _ _ _ (leL_refl _) (c_when ..) rfl ?_; conv => whnf)
    refine .mk _ _ _ _ _ (leL_refl _) (c_f2 _ _ _ _ rfl rfl) rfl ?_
    conv => whnf
    split
    · rename_i h
      exact Bool.noConfusion ((q0).symm.trans h)
    rename_i hN
    clear hN
    conv => whnf
    refine .mk _ _ _ _ _ (leL_refl _) (c_mappedI _ up n (by omega) w (fun i => withinS (w i) 0 m.wind) n_control_Run_1 2 (fun i hi => c_f104 [] _ up 2 m rfl _)) rfl ?_
    conv => whnf
    repeat first
      | (refine DRAW.seek ?_; repeat (first | refine TRYD.take ?_ | refine TRYD.next ?_); conv => whnf)
      | (refine HOLD.mk (by first | exact trivial | exact ⟨⟨rfl, rfl⟩, trivial⟩ | exact ⟨⟨rfl, rfl⟩, ⟨rfl, rfl⟩, trivial⟩) ?_; (conv => whnf))
      | (refine CALL0.by (hF ..) rfl ?_; conv => whnf)
      | (refine CALLQ.mk _ _ _ (leL_refl _) (hF ..) rfl ?_; conv => whnf)
    split
    rotate_left
    · rename_i h
      exact Bool.noConfusion ((q1).symm.trans h)
    rename_i hN
    clear hN
    conv => whnf
    exact ⟨rfl, rfl⟩
  | false =>
    have hz : E = 0 := by simpa using q1
    have hw : ∀ i, i < n → 0 ≤ w i ∧ w i ≤ m.wind := fun i hi => by
      have h := hE.symm.trans hz
      unfold winds0 at h
      rw [firstS_zero] at h
      exact withinS_zero.1 (h i (by omega) (by omega))
    have hgr := run_great hm hw
    have qsz : decide ((n : Int) ≤ 1073741824) = true := decide_eq_true (by omega)
    conv => whnf
    repeat first
      | (refine DRAW.seek ?_; repeat (first | refine TRYD.take ?_ | refine TRYD.next ?_); conv => whnf)
      | (refine HOLD.mk (by first | exact trivial | exact ⟨⟨rfl, rfl⟩, trivial⟩ | exact ⟨⟨rfl, rfl⟩, ⟨rfl, rfl⟩, trivial⟩) ?_; (conv => whnf))
      | (refine CALL0.by (c_CheckMachine ..) rfl ?_; conv => whnf)
      | (refine CALLQ.mk _ _ _ (leL_refl _) (c_CheckMachine ..) rfl ?_; conv => whnf)
      | (refine CALL0.by (c_when ..) rfl ?_; conv => whnf)
      | (refine CALLQ.mk _ _ _ (leL_refl _) (c_when ..) rfl ?_; conv => whnf)
    refine .mk _ _ _ _ _ (leL_refl _) (c_f2 _ _ _ _ rfl rfl) rfl ?_
    conv => whnf
    split
    · rename_i h
      exact Bool.noConfusion ((q0).symm.trans h)
    rename_i hN
    clear hN
    conv => whnf
    refine .mk _ _ _ _ _ (leL_refl _) (c_mappedI _ up n (by omega) w (fun i => withinS (w i) 0 m.wind) n_control_Run_1 2 (fun i hi => c_f104 [] _ up 2 m rfl _)) rfl ?_
    conv => whnf
    repeat first
      | (refine DRAW.seek ?_; repeat (first | refine TRYD.take ?_ | refine TRYD.next ?_); conv => whnf)
      | (refine HOLD.mk (by first | exact trivial | exact ⟨⟨rfl, rfl⟩, trivial⟩ | exact ⟨⟨rfl, rfl⟩, ⟨rfl, rfl⟩, trivial⟩) ?_; (conv => whnf))
      | (refine CALL0.by (hF ..) rfl ?_; conv => whnf)
      | (refine CALLQ.mk _ _ _ (leL_refl _) (hF ..) rfl ?_; conv => whnf)
    split
    · rename_i h
      exact Bool.noConfusion ((q1).symm.trans h)
    rename_i hN
    clear hN
    conv => whnf
    split
    rotate_left
    · rename_i h
      exact Bool.noConfusion ((qsz).symm.trans h)
    rename_i hN
    clear hN
    conv => whnf
    repeat first
      | (refine DRAW.seek ?_; repeat (first | refine TRYD.take ?_ | refine TRYD.next ?_); conv => whnf)
      | (refine HOLD.mk (by first | exact trivial | exact ⟨⟨rfl, rfl⟩, trivial⟩ | exact ⟨⟨rfl, rfl⟩, ⟨rfl, rfl⟩, trivial⟩) ?_; (conv => whnf))
      | (refine CALL0.by (c_begin ..) rfl ?_; conv => whnf)
      | (refine CALLQ.mk _ _ _ (leL_refl _) (c_begin ..) rfl ?_; conv => whnf)
    let F : Nat → List IV := fun i => (actW m w i).cs
    refine .mk (α := {i : Nat // i ≤ n}) (fun i => ⟨[(38, .int .i64 i.1), (37, .int .i64 n), (36, .lst none 1 n fun i => [.int .i64 (w i)]), (8, .lst (some (tgR i.1)) 5 i.1 F), (2, .ptr 0 2 0), (9, .ptr 0 9 0)], [(9, (runW m w i.1).cs), (2, m.cs)], up⟩) (fun i => n - i.1) ⟨0, Nat.zero_le _⟩ ⟨?_, ?_, rfl, rfl⟩ ?_
    · exact ⟨leV_refl _, leV_refl _, leV_refl _, ⟨.inr rfl, rfl, rfl, fun j hj => absurd hj (Nat.not_lt_zero _)⟩, leV_refl _, leV_refl _, trivial⟩
    · exact ⟨leL_refl _, leL_refl _, trivial⟩
    rintro ⟨i, hi⟩
    have hiw : w64 ((i : Int) + 1) = ((i + 1 : Nat) : Int) := by rw [w64, wrap_in] <;> omega
    by_cases hlt : i < n
    · have q : decide ((i : Int) < n) = true := decide_eq_true (by omega)
      have hg := hgr i (by omega)
      have hi1 := hg.good.inv
      have hl := hm.lim
      have hil := hi1.lim
      have hp := fun up => c_propose (gl := gl) up m (runW m w i) (w i) hm hi1.rng (by omega) hi1.stuck (hw i hlt)
      rw [show (runW m w i).proposeW m (w i) = actW m w i from rfl] at hp
      have hb := fun up => c_behind (gl := gl) up m (runW m w i) (actW m w i)
      rw [show (runW m w i).behindW m (actW m w i) = runW m w (i + 1) from rfl] at hb
      rcases i with _ | i
      · conv => whnf
        split
        rotate_left
        · rename_i h
          exact Bool.noConfusion ((q).symm.trans h)
        rename_i hN
        clear hN
        conv => whnf
        split
        rotate_left
        · rename_i h
          exact Bool.noConfusion ((q).symm.trans h)
        rename_i hN
        clear hN
        conv => whnf
        repeat first
          | (refine DRAW.seek ?_; repeat (first | refine TRYD.take ?_ | refine TRYD.next ?_); conv => whnf)
          | (refine HOLD.mk (by first | exact trivial | exact ⟨⟨rfl, rfl⟩, trivial⟩ | exact ⟨⟨rfl, rfl⟩, ⟨rfl, rfl⟩, trivial⟩) ?_; (conv => whnf))
          | (refine CALL0.by (hp ..) rfl ?_; conv => whnf)
          | (refine CALLQ.mk _ _ _ (leL_refl _) (hp ..) rfl ?_; conv => whnf)
        repeat first
          | (refine DRAW.seek ?_; repeat (first | refine TRYD.take ?_ | refine TRYD.next ?_); conv => whnf)
          | (refine HOLD.mk (by first | exact trivial | exact ⟨⟨rfl, rfl⟩, trivial⟩ | exact ⟨⟨rfl, rfl⟩, ⟨rfl, rfl⟩, trivial⟩) ?_; (conv => whnf))
          | (refine CALL0.by (hb ..) rfl ?_; conv => whnf)
          | (refine CALLQ.mk _ _ _ (leL_refl _) (hb ..) rfl ?_; conv => whnf)
        refine ⟨⟨0 + 1, hlt⟩, ⟨⟨leV_int hiw, leV_refl _, leV_refl _, ⟨.inr rfl, rfl, rfl, fun j hj => ?_⟩, leV_refl _, leV_refl _, trivial⟩, ⟨leL_refl _, leL_refl _, trivial⟩, rfl, rfl⟩, (by show n - (0 + 1) < n - 0; omega)⟩
        show (if j < 0 then F j else litF 5 (F 0) (j - 0)) = F j
        split
        · rfl
        · have : j = 0 := by have : j < 0 + 1 := hj; omega
          subst this
          rw [Nat.sub_self]
          rfl
      · conv => whnf
        split
        rotate_left
        · rename_i h
          exact Bool.noConfusion ((q).symm.trans h)
        rename_i hN
        clear hN
        conv => whnf
        split
        rotate_left
        · rename_i h
          exact Bool.noConfusion ((q).symm.trans h)
        rename_i hN
        clear hN
        conv => whnf
        repeat first
          | (refine DRAW.seek ?_; repeat (first | refine TRYD.take ?_ | refine TRYD.next ?_); conv => whnf)
          | (refine HOLD.mk (by first | exact trivial | exact ⟨⟨rfl, rfl⟩, trivial⟩ | exact ⟨⟨rfl, rfl⟩, ⟨rfl, rfl⟩, trivial⟩) ?_; (conv => whnf))
          | (refine CALL0.by (hp ..) rfl ?_; conv => whnf)
          | (refine CALLQ.mk _ _ _ (leL_refl _) (hp ..) rfl ?_; conv => whnf)
        split
        rotate_left
        · rename_i h
          have h' : decide (i + 1 + 1 ≤ 1073741824) = false := h
          simp at h' <;> omega
        conv => whnf
        repeat first
          | (refine DRAW.seek ?_; repeat (first | refine TRYD.take ?_ | refine TRYD.next ?_); conv => whnf)
          | (refine HOLD.mk (by first | exact trivial | exact ⟨⟨rfl, rfl⟩, trivial⟩ | exact ⟨⟨rfl, rfl⟩, ⟨rfl, rfl⟩, trivial⟩) ?_; (conv => whnf))
          | (refine CALL0.by (hb ..) rfl ?_; conv => whnf)
          | (refine CALLQ.mk _ _ _ (leL_refl _) (hb ..) rfl ?_; conv => whnf)
        refine ⟨⟨i + 1 + 1, hlt⟩, ⟨⟨leV_int hiw, leV_refl _, leV_refl _, ⟨.inr rfl, rfl, rfl, fun j hj => ?_⟩, leV_refl _, leV_refl _, trivial⟩, ⟨leL_refl _, leL_refl _, trivial⟩, rfl, rfl⟩, (by show n - (i + 1 + 1) < n - (i + 1); omega)⟩
        show (if j < i + 1 then F j else litF 5 (F (i + 1)) (j - (i + 1))) = F j
        split
        · rfl
        · have : j = i + 1 := by have : j < i + 1 + 1 := hj; omega
          subst this
          rw [Nat.sub_self]
          rfl
    · have q : decide ((i : Int) < n) = false := decide_eq_false (by omega)
      have e : i = n := by omega
      subst e
      conv => whnf
      split
      · rename_i h
        exact Bool.noConfusion ((q).symm.trans h)
      rename_i hN
      clear hN
      conv => whnf
      exact ⟨rfl, rfl⟩
end Go.Proofs.YtkdlegfakefjgaaGreatDoor.Ix

/-
  Cr8: the reference's Run.
-/
namespace Go.Proofs.YtkdlegfakefjgaaGreatDoor.Ix
open Go.Proofs
set_option maxRecDepth 100000
set_option linter.unusedVariables false
set_option linter.unusedSimpArgs false
variable {gl : Nat → IV}

set_option maxHeartbeats 16000000 in
theorem c_rRun (up : List Ces) (m : Mc) (hm : m.ok) (n : Nat) (hn : n ≤ 1024) (w : Nat → Int) (hw : ∀ i, i < n → 0 ≤ w i ∧ w i ≤ m.wind) :
    Cs gl n_nacelleref05_Run up [m.iv, .lst none 1 n fun i => [.int .i64 (w i)]] (.lst (some 27) 5 n fun i => (actW m w i).cs) up := by
  refine mk h_nacelleref05_Run rfl rfl ?_
  have hgr := run_great hm hw
  let F : Nat → List IV := fun i => (actW m w i).cs
  conv => whnf
  repeat first
    | (refine DRAW.seek ?_; repeat (first | refine TRYD.take ?_ | refine TRYD.next ?_); conv => whnf)
    | (refine HOLD.mk (by first | exact trivial | exact ⟨⟨rfl, rfl⟩, trivial⟩ | exact ⟨⟨rfl, rfl⟩, ⟨rfl, rfl⟩, trivial⟩) ?_; (conv => whnf))
    | (refine CALL0.by (c_rBegin ..) rfl ?_; conv => whnf)
    | (refine CALLQ.mk _ _ _ (leL_refl _) (c_rBegin ..) rfl ?_; conv => whnf)
  refine .mk (α := {i : Nat // i ≤ n}) (fun i => ⟨[(7, .int .i64 i.1), (6, .lst (some 27) 5 i.1 F), (5, .ptr 0 5 0), (2, .ptr 0 2 0), (1, .lst none 1 n fun i => [.int .i64 (w i)])], [(5, (runW m w i.1).cs), (2, m.cs)], up⟩) (fun i => n - i.1) ⟨0, Nat.zero_le _⟩ ⟨?_, ?_, rfl, rfl⟩ ?_
  · exact ⟨leV_refl _, rfl, leV_refl _, leV_refl _, leV_refl _, trivial⟩
  · exact ⟨leL_refl _, leL_refl _, trivial⟩
  rintro ⟨i, hi⟩
  have hiw : w64 ((i : Int) + 1) = ((i + 1 : Nat) : Int) := by rw [w64, wrap_in] <;> omega
  by_cases hlt : i < n
  · have q : decide ((i : Int) < n) = true := decide_eq_true (by omega)
    have hg := hgr i (by omega)
    have hi1 := hg.good.inv
    have hl := hm.lim
    have hil := hi1.lim
    have hp := fun up => c_rPropose (gl := gl) up m (runW m w i) (w i) hm hi1.rng (by omega) hi1.stuck (hw i hlt)
    rw [show (runW m w i).proposeW m (w i) = actW m w i from rfl] at hp
    have hok := (propose_great hm hg (hw i hlt)).2.1
    have hb := fun up => c_rafter (gl := gl) up m (runW m w i) (actW m w i) hm hi1.rng hok
    rw [show (runW m w i).behindW m (actW m w i) = runW m w (i + 1) from rfl] at hb
    conv => whnf
    split
    rotate_left
    · rename_i h
      exact Bool.noConfusion ((q).symm.trans h)
    rename_i hN
    clear hN
    conv => whnf
    refine DRAW.seek ?_
    repeat (first | refine TRYD.take ?_ | refine TRYD.next ?_)
    conv => whnf
    split
    rotate_left
    · rename_i h
      exact Bool.noConfusion ((q).symm.trans h)
    rename_i hN
    clear hN
    conv => whnf
    repeat first
      | (refine DRAW.seek ?_; repeat (first | refine TRYD.take ?_ | refine TRYD.next ?_); conv => whnf)
      | (refine HOLD.mk (by first | exact trivial | exact ⟨⟨rfl, rfl⟩, trivial⟩ | exact ⟨⟨rfl, rfl⟩, ⟨rfl, rfl⟩, trivial⟩) ?_; (conv => whnf))
      | (refine CALL0.by (hp ..) rfl ?_; conv => whnf)
      | (refine CALLQ.mk _ _ _ (leL_refl _) (hp ..) rfl ?_; conv => whnf)
    split
    rotate_left
    · rename_i h
      have h' : decide (i + 1 ≤ 1073741824) = false := h
      simp at h' <;> omega
    conv => whnf
    repeat first
      | (refine DRAW.seek ?_; repeat (first | refine TRYD.take ?_ | refine TRYD.next ?_); conv => whnf)
      | (refine HOLD.mk (by first | exact trivial | exact ⟨⟨rfl, rfl⟩, trivial⟩ | exact ⟨⟨rfl, rfl⟩, ⟨rfl, rfl⟩, trivial⟩) ?_; (conv => whnf))
      | (refine CALL0.by (hb ..) rfl ?_; conv => whnf)
      | (refine CALLQ.mk _ _ _ (leL_refl _) (hb ..) rfl ?_; conv => whnf)
    refine ⟨⟨i + 1, hlt⟩, ⟨⟨leV_int hiw, ⟨.inr rfl, rfl, rfl, fun j hj => ?_⟩, leV_refl _, leV_refl _, leV_refl _, trivial⟩, ⟨leL_refl _, leL_refl _, trivial⟩, rfl, rfl⟩, (by show n - (i + 1) < n - i; omega)⟩
    show (if j < i then F j else litF 5 (F i) (j - i)) = F j
    split
    · rfl
    · have : j = i := by have : j < i + 1 := hj; omega
      subst this
      rw [Nat.sub_self]
      rfl
  · have q : decide ((i : Int) < n) = false := decide_eq_false (by omega)
    have e : i = n := by omega
    subst e
    conv => whnf
    split
    · rename_i h
      exact Bool.noConfusion ((q).symm.trans h)
    rename_i hN
    clear hN
    conv => whnf
    exact ⟨rfl, rfl⟩
end Go.Proofs.YtkdlegfakefjgaaGreatDoor.Ix
