/-
  Ks7: ControlKeeps: the law.
-/
import Derived.Test.YtkdlegfakefjgaaGreatDoorM8
namespace Go.Proofs.YtkdlegfakefjgaaGreatDoor.Ix
open Go.Proofs
set_option maxRecDepth 100000
set_option linter.unusedVariables false
set_option linter.unusedSimpArgs false
variable {gl : Nat → IV}

/-- Several roads to one loop: the loop is walked once. -/
theorem joinL {ι : Type} {body : (Ex → St → Prop) → St → Prop} {Q : Ex → St → Prop} {G : Prop} (Inv0 : ι → St) (C : ι → Prop) (main : (∀ i S, C i → leS S (Inv0 i) → LOOP body Q S) → G)
    (key : ∀ i, C i → ∃ (α : Type) (Inv : α → St) (rk : α → Nat) (a : α), Inv a = Inv0 i ∧ ∀ a, body (Ex.seq (fun S' => ∃ a', leS S' (Inv a') ∧ rk a' < rk a) Q) (Inv a)) : G := by
  refine main fun i S hc hle => ?_
  obtain ⟨α, Inv, rk, a, e, hr⟩ := key i hc
  exact .mk Inv rk a (by rw [e]; exact hle) hr

structure Storm where
  nw : Nat
  nh : Nat
  w : Nat → Int
  h : Nat → Bool
  b : Int
def Storm.cs (x : Storm) : List IV := [.lst none 1 x.nw fun i => [.int .u8 (x.w i)], .lst none 1 x.nh fun i => [.bool (x.h i)], .int .u8 x.b]
def Storm.iv (x : Storm) : IV := .agg [.lst none 1 x.nw fun i => [.int .u8 (x.w i)], .lst none 1 x.nh fun i => [.bool (x.h i)], .int .u8 x.b]

theorem keeps_no (up : List Ces) (hk : gl g_control_kinds = kindsI) (hg : gl g_internal_strconv_uint64pow10 = powI) (m : Mc) (n : Nat) (hn : n ≤ 9223372036854775807) (l : Nat → Ac) (x : Storm)
    (h : m.smallB = false ∨ decide ((n : Int) > 24) = true ∨ shortA n l 24 = false ∨ (histE m n l != 0) = true ∨ decide ((x.nw : Int) > 200) = true ∨ decide ((x.nh : Int) > 200) = true) :
    Cs gl n_nacellelaw05_ControlKeeps up [m.iv, .lst none 5 n fun i => (l i).cs, x.iv] (.bool true) up := by
  have hS := fun up => c_rSmall (gl := gl) up m
  have hA := fun up => c_awake (gl := gl) up hk hg
  have hSh := fun up => c_rShort (gl := gl) up n hn l 24
  refine mk h_nacellelaw05_ControlKeeps rfl rfl ?_
  cases qs : m.smallB with
  | false =>
    rw [qs] at hS
    conv => whnf
    repeat first
      | (refine DRAW.seek ?_; repeat (first | refine TRYD.take ?_ | refine TRYD.next ?_); conv => whnf)
      | (refine HOLD.mk (by first | exact trivial | exact ⟨⟨rfl, rfl⟩, trivial⟩ | exact ⟨⟨rfl, rfl⟩, ⟨rfl, rfl⟩, trivial⟩) ?_; (conv => whnf))
      | (refine CALL0.by (hS ..) rfl ?_; conv => whnf)
      | (refine CALLQ.mk _ _ _ (leL_refl _) (hS ..) rfl ?_; conv => whnf)
      | (refine CALL0.by (hA ..) rfl ?_; conv => whnf)
      | (refine CALLQ.mk _ _ _ (leL_refl _) (hA ..) rfl ?_; conv => whnf)
    exact ⟨rfl, rfl⟩
  | true =>
  rw [qs] at hS
  replace h := h.resolve_left (by rw [qs]; nofun)
  cases q1 : decide ((n : Int) > 24) with
  | true =>
    conv => whnf
    repeat first
      | (refine DRAW.seek ?_; repeat (first | refine TRYD.take ?_ | refine TRYD.next ?_); conv => whnf)
      | (refine HOLD.mk (by first | exact trivial | exact ⟨⟨rfl, rfl⟩, trivial⟩ | exact ⟨⟨rfl, rfl⟩, ⟨rfl, rfl⟩, trivial⟩) ?_; (conv => whnf))
      | (refine CALL0.by (hS ..) rfl ?_; conv => whnf)
      | (refine CALLQ.mk _ _ _ (leL_refl _) (hS ..) rfl ?_; conv => whnf)
    split
    rotate_left
    · rename_i h
      exact Bool.noConfusion ((q1).symm.trans h)
    rename_i hN
    clear hN
    conv => whnf
    repeat first
      | (refine DRAW.seek ?_; repeat (first | refine TRYD.take ?_ | refine TRYD.next ?_); conv => whnf)
      | (refine HOLD.mk (by first | exact trivial | exact ⟨⟨rfl, rfl⟩, trivial⟩ | exact ⟨⟨rfl, rfl⟩, ⟨rfl, rfl⟩, trivial⟩) ?_; (conv => whnf))
      | (refine CALL0.by (hA ..) rfl ?_; conv => whnf)
      | (refine CALLQ.mk _ _ _ (leL_refl _) (hA ..) rfl ?_; conv => whnf)
    exact ⟨rfl, rfl⟩
  | false =>
  replace h := h.resolve_left (by rw [q1]; nofun)
  have hn2 := of_decide_eq_false q1
  have hH := fun up => c_rHistory (gl := gl) up m n (by omega) l
  cases q2 : shortA n l 24 with
  | false =>
    rw [q2] at hSh
    conv => whnf
    repeat first
      | (refine DRAW.seek ?_; repeat (first | refine TRYD.take ?_ | refine TRYD.next ?_); conv => whnf)
      | (refine HOLD.mk (by first | exact trivial | exact ⟨⟨rfl, rfl⟩, trivial⟩ | exact ⟨⟨rfl, rfl⟩, ⟨rfl, rfl⟩, trivial⟩) ?_; (conv => whnf))
      | (refine CALL0.by (hS ..) rfl ?_; conv => whnf)
      | (refine CALLQ.mk _ _ _ (leL_refl _) (hS ..) rfl ?_; conv => whnf)
    split
    · rename_i h
      exact Bool.noConfusion ((q1).symm.trans h)
    rename_i hN
    clear hN
    conv => whnf
    repeat first
      | (refine DRAW.seek ?_; repeat (first | refine TRYD.take ?_ | refine TRYD.next ?_); conv => whnf)
      | (refine HOLD.mk (by first | exact trivial | exact ⟨⟨rfl, rfl⟩, trivial⟩ | exact ⟨⟨rfl, rfl⟩, ⟨rfl, rfl⟩, trivial⟩) ?_; (conv => whnf))
      | (refine CALL0.by (hSh ..) rfl ?_; conv => whnf)
      | (refine CALLQ.mk _ _ _ (leL_refl _) (hSh ..) rfl ?_; conv => whnf)
      | (refine CALL0.by (hA ..) rfl ?_; conv => whnf)
      | (refine CALLQ.mk _ _ _ (leL_refl _) (hA ..) rfl ?_; conv => whnf)
    exact ⟨rfl, rfl⟩
  | true =>
  rw [q2] at hSh
  replace h := h.resolve_left (by rw [q2]; nofun)
  cases q3 : (histE m n l != 0) with
  | true =>
    conv => whnf
    repeat first
      | (refine DRAW.seek ?_; repeat (first | refine TRYD.take ?_ | refine TRYD.next ?_); conv => whnf)
      | (refine HOLD.mk (by first | exact trivial | exact ⟨⟨rfl, rfl⟩, trivial⟩ | exact ⟨⟨rfl, rfl⟩, ⟨rfl, rfl⟩, trivial⟩) ?_; (conv => whnf))
      | (refine CALL0.by (hS ..) rfl ?_; conv => whnf)
      | (refine CALLQ.mk _ _ _ (leL_refl _) (hS ..) rfl ?_; conv => whnf)
    split
    · rename_i h
      exact Bool.noConfusion ((q1).symm.trans h)
    rename_i hN
    clear hN
    conv => whnf
    repeat first
      | (refine DRAW.seek ?_; repeat (first | refine TRYD.take ?_ | refine TRYD.next ?_); conv => whnf)
      | (refine HOLD.mk (by first | exact trivial | exact ⟨⟨rfl, rfl⟩, trivial⟩ | exact ⟨⟨rfl, rfl⟩, ⟨rfl, rfl⟩, trivial⟩) ?_; (conv => whnf))
      | (refine CALL0.by (hSh ..) rfl ?_; conv => whnf)
      | (refine CALLQ.mk _ _ _ (leL_refl _) (hSh ..) rfl ?_; conv => whnf)
      | (refine CALL0.by (hH ..) rfl ?_; conv => whnf)
      | (refine CALLQ.mk _ _ _ (leL_refl _) (hH ..) rfl ?_; conv => whnf)
    split
    rotate_left
    · rename_i h
      exact Bool.noConfusion ((q3).symm.trans h)
    rename_i hN
    clear hN
    conv => whnf
    repeat first
      | (refine DRAW.seek ?_; repeat (first | refine TRYD.take ?_ | refine TRYD.next ?_); conv => whnf)
      | (refine HOLD.mk (by first | exact trivial | exact ⟨⟨rfl, rfl⟩, trivial⟩ | exact ⟨⟨rfl, rfl⟩, ⟨rfl, rfl⟩, trivial⟩) ?_; (conv => whnf))
      | (refine CALL0.by (hA ..) rfl ?_; conv => whnf)
      | (refine CALLQ.mk _ _ _ (leL_refl _) (hA ..) rfl ?_; conv => whnf)
    exact ⟨rfl, rfl⟩
  | false =>
  replace h := h.resolve_left (by rw [q3]; nofun)
  cases q4 : decide ((x.nw : Int) > 200) with
  | true =>
    conv => whnf
    repeat first
      | (refine DRAW.seek ?_; repeat (first | refine TRYD.take ?_ | refine TRYD.next ?_); conv => whnf)
      | (refine HOLD.mk (by first | exact trivial | exact ⟨⟨rfl, rfl⟩, trivial⟩ | exact ⟨⟨rfl, rfl⟩, ⟨rfl, rfl⟩, trivial⟩) ?_; (conv => whnf))
      | (refine CALL0.by (hS ..) rfl ?_; conv => whnf)
      | (refine CALLQ.mk _ _ _ (leL_refl _) (hS ..) rfl ?_; conv => whnf)
    split
    · rename_i h
      exact Bool.noConfusion ((q1).symm.trans h)
    rename_i hN
    clear hN
    conv => whnf
    repeat first
      | (refine DRAW.seek ?_; repeat (first | refine TRYD.take ?_ | refine TRYD.next ?_); conv => whnf)
      | (refine HOLD.mk (by first | exact trivial | exact ⟨⟨rfl, rfl⟩, trivial⟩ | exact ⟨⟨rfl, rfl⟩, ⟨rfl, rfl⟩, trivial⟩) ?_; (conv => whnf))
      | (refine CALL0.by (hSh ..) rfl ?_; conv => whnf)
      | (refine CALLQ.mk _ _ _ (leL_refl _) (hSh ..) rfl ?_; conv => whnf)
      | (refine CALL0.by (hH ..) rfl ?_; conv => whnf)
      | (refine CALLQ.mk _ _ _ (leL_refl _) (hH ..) rfl ?_; conv => whnf)
    split
    · rename_i h
      exact Bool.noConfusion ((q3).symm.trans h)
    rename_i hN
    clear hN
    conv => whnf
    split
    rotate_left
    · rename_i h
      exact Bool.noConfusion ((q4).symm.trans h)
    rename_i hN
    clear hN
    conv => whnf
    repeat first
      | (refine DRAW.seek ?_; repeat (first | refine TRYD.take ?_ | refine TRYD.next ?_); conv => whnf)
      | (refine HOLD.mk (by first | exact trivial | exact ⟨⟨rfl, rfl⟩, trivial⟩ | exact ⟨⟨rfl, rfl⟩, ⟨rfl, rfl⟩, trivial⟩) ?_; (conv => whnf))
      | (refine CALL0.by (hA ..) rfl ?_; conv => whnf)
      | (refine CALLQ.mk _ _ _ (leL_refl _) (hA ..) rfl ?_; conv => whnf)
    exact ⟨rfl, rfl⟩
  | false =>
  have q5 := h.resolve_left (by rw [q4]; nofun)
  conv => whnf
  repeat first
    | (refine DRAW.seek ?_; repeat (first | refine TRYD.take ?_ | refine TRYD.next ?_); conv => whnf)
    | (refine HOLD.mk (by first | exact trivial | exact ⟨⟨rfl, rfl⟩, trivial⟩ | exact ⟨⟨rfl, rfl⟩, ⟨rfl, rfl⟩, trivial⟩) ?_; (conv => whnf))
    | (refine CALL0.by (hS ..) rfl ?_; conv => whnf)
    | (refine CALLQ.mk _ _ _ (leL_refl _) (hS ..) rfl ?_; conv => whnf)
  split
  · rename_i h
    exact Bool.noConfusion ((q1).symm.trans h)
  rename_i hN
  clear hN
  conv => whnf
  repeat first
    | (refine DRAW.seek ?_; repeat (first | refine TRYD.take ?_ | refine TRYD.next ?_); conv => whnf)
    | (refine HOLD.mk (by first | exact trivial | exact ⟨⟨rfl, rfl⟩, trivial⟩ | exact ⟨⟨rfl, rfl⟩, ⟨rfl, rfl⟩, trivial⟩) ?_; (conv => whnf))
    | (refine CALL0.by (hSh ..) rfl ?_; conv => whnf)
    | (refine CALLQ.mk _ _ _ (leL_refl _) (hSh ..) rfl ?_; conv => whnf)
    | (refine CALL0.by (hH ..) rfl ?_; conv => whnf)
    | (refine CALLQ.mk _ _ _ (leL_refl _) (hH ..) rfl ?_; conv => whnf)
  split
  · rename_i h
    exact Bool.noConfusion ((q3).symm.trans h)
  rename_i hN
  clear hN
  conv => whnf
  split
  · rename_i h
    exact Bool.noConfusion ((q4).symm.trans h)
  rename_i hN
  clear hN
  conv => whnf
  split
  rotate_left
  · rename_i h
    exact Bool.noConfusion ((q5).symm.trans h)
  rename_i hN
  clear hN
  conv => whnf
  repeat first
    | (refine DRAW.seek ?_; repeat (first | refine TRYD.take ?_ | refine TRYD.next ?_); conv => whnf)
    | (refine HOLD.mk (by first | exact trivial | exact ⟨⟨rfl, rfl⟩, trivial⟩ | exact ⟨⟨rfl, rfl⟩, ⟨rfl, rfl⟩, trivial⟩) ?_; (conv => whnf))
    | (refine CALL0.by (hA ..) rfl ?_; conv => whnf)
    | (refine CALLQ.mk _ _ _ (leL_refl _) (hA ..) rfl ?_; conv => whnf)
  exact ⟨rfl, rfl⟩

/-- How the pitches and the speed go, computed blade by blade. -/
def pitK (s : Sta) (m : Mc) (k : Int) (i : Nat) : Int := bif (i : Int) != k then minW m.fea (w64 ([s.p0, s.p1, s.p2].getD i 0 + m.rate)) else [s.p0, s.p1, s.p2].getD i 0
def spdK (s : Sta) (m : Mc) (w k : Int) : Nat → Int
  | 0 => w64 (s.speed + w)
  | i + 1 => w64 (spdK s m w k i - pitK s m k i)
def celK (s : Sta) (m : Mc) (k : Int) : Nat → List IV
  | 0 => [.int .i64 s.p0, .int .i64 s.p1, .int .i64 s.p2]
  | 1 => [.int .i64 (pitK s m k 0), .int .i64 s.p1, .int .i64 s.p2]
  | 2 => [.int .i64 (pitK s m k 0), .int .i64 (pitK s m k 1), .int .i64 s.p2]
  | _ => [.int .i64 (pitK s m k 0), .int .i64 (pitK s m k 1), .int .i64 (pitK s m k 2)]

theorem pitK_eq {m : Mc} (hm : m.ok) {s : Sta} (hs : s.rng m) (k : Int) : pitK s m k 0 = stepP m k 0 s.p0 ∧ pitK s m k 1 = stepP m k 1 s.p1 ∧ pitK s m k 2 = stepP m k 2 s.p2 := by
  have hf := hm.fea
  have hr := hm.rate
  have q : ∀ (i : Nat) (p : Int), [s.p0, s.p1, s.p2].getD i 0 = p → 0 ≤ p ∧ p ≤ m.fea → pitK s m k i = stepP m k (i : Int) p := fun i p e h => by
    unfold pitK stepP
    rw [e, w64, wrap_in (by omega) (by omega)]
    by_cases hik : (i : Int) = k
    · rw [if_pos hik, show ((i : Int) != k) = false by simpa using hik]; rfl
    · rw [if_neg hik, show ((i : Int) != k) = true by simpa using hik, cond_true]
      unfold minW
      split <;> omega
  exact ⟨q 0 _ rfl hs.p0, q 1 _ rfl hs.p1, q 2 _ rfl hs.p2⟩

theorem keeps_eq {m : Mc} (hm : m.ok) {s : Sta} (hs : s.rng m) (hsp : s.speed ≤ 10000) {w k : Int} (hw : 0 ≤ w ∧ w ≤ 100) : (s.brakedW m w k).speed = maxW 0 (spdK s m w k 3) ∧ (s.brakedW m w k).p0 = pitK s m k 0 ∧ (s.brakedW m w k).p1 = pitK s m k 1 ∧ (s.brakedW m w k).p2 = pitK s m k 2 := by
  have hf := hm.fea
  have hra := hm.rate
  have hsp2 := hs.speed
  obtain ⟨e0, e1, e2⟩ := pitK_eq hm hs k
  have b0 : 0 ≤ stepP m k 0 s.p0 ∧ stepP m k 0 s.p0 ≤ m.fea := by have := hs.p0; unfold stepP; split <;> omega
  have b1 : 0 ≤ stepP m k 1 s.p1 ∧ stepP m k 1 s.p1 ≤ m.fea := by have := hs.p1; unfold stepP; split <;> omega
  have b2 : 0 ≤ stepP m k 2 s.p2 ∧ stepP m k 2 s.p2 ≤ m.fea := by have := hs.p2; unfold stepP; split <;> omega
  have e := braked_eq hm hs w k hw
  rw [e]
  refine ⟨?_, e0.symm, e1.symm, e2.symm⟩
  show max 0 (s.speed + w - stepP m k 0 s.p0 - stepP m k 1 s.p1 - stepP m k 2 s.p2) = maxW 0 (w64 (w64 (w64 (w64 (s.speed + w) - pitK s m k 0) - pitK s m k 1) - pitK s m k 2))
  rw [e0, e1, e2]
  generalize stepP m k 0 s.p0 = x0 at *
  generalize stepP m k 1 s.p1 = x1 at *
  generalize stepP m k 2 s.p2 = x2 at *
  have w' : ∀ x : Int, -10000000 ≤ x → x ≤ 10000000 → w64 x = x := fun x h1 h2 => by rw [w64, wrap_in] <;> omega
  rw [w' (s.speed + w) (by omega) (by omega), w' (s.speed + w - x0) (by omega) (by omega), w' (s.speed + w - x0 - x1) (by omega) (by omega), w' (s.speed + w - x0 - x1 - x2) (by omega) (by omega), maxW_eq]
end Go.Proofs.YtkdlegfakefjgaaGreatDoor.Ix

/-
  Ks8: ControlKeeps: the law, where the history is one.
-/
namespace Go.Proofs.YtkdlegfakefjgaaGreatDoor.Ix
open Go.Proofs
set_option maxRecDepth 100000
set_option linter.unusedVariables false
set_option linter.unusedSimpArgs false
variable {gl : Nat → IV}

theorem rest_behind (s : Sta) (m : Mc) : (s.behindW m (plainA sRest)).mode = sIdle := by
  have k0 : eqS sRest sStart = false := kinds_ne (eqS_iff.2 rfl) (by decide)
  have k2 : eqS sRest sTick = false := kinds_ne (eqS_iff.2 rfl) (by decide)
  have k3 : eqS sRest sStop = false := kinds_ne (eqS_iff.2 rfl) (by decide)
  have k5 : eqS sRest sBrake = false := kinds_ne (eqS_iff.2 rfl) (by decide)
  unfold Sta.behindW
  show (bif eqS sRest sStart then _ else bif eqS sRest sTick then _ else bif eqS sRest sStop then _ else bif eqS sRest sBrake then _ else bif eqS sRest sRest then _ else _ : Sta).mode = _
  rw [k0, k2, k3, k5, eq_self]; rfl

theorem leL3 {a b c a' b' c' : IV} (h1 : leV a a') (h2 : leV b b') (h3 : leV c c') : leL [a, b, c] [a', b', c'] := ⟨h1, h2, h3, trivial⟩

/-- What is read behind each call. -/
def lvKeeps : List (Nat × List Nat) := [(27, [1, 3, 5, 6, 7, 8, 9, 10, 11, 27]), (36, [1, 3, 5, 6, 7, 8, 9, 10, 11, 34, 36]), (42, [1, 3, 5, 6, 7, 8, 9, 10, 11, 39, 42]), (57, [1, 3, 5, 6, 7, 8, 9, 10, 11, 57]), (60, [1, 3, 5, 6, 7, 8, 9, 10, 11, 60]), (62, [3, 5, 6, 7, 8, 9, 10, 11, 60, 62]), (63, [3, 5, 6, 7, 8, 9, 10, 11, 63]), (83, [3, 5, 6, 7, 10, 11, 83]), (86, [3, 5, 6, 7, 10, 11, 86]), (89, [3, 5, 6, 7, 10, 11, 89]), (151, [3, 5, 6, 7, 11, 12, 13, 14, 15, 16, 18, 20, 21, 22, 23, 25, 127, 128, 151]), (154, [3, 5, 6, 7, 11, 12, 13, 14, 15, 16, 18, 20, 21, 22, 23, 25, 127, 128, 154]), (170, [3, 5, 6, 7, 11, 12, 13, 14, 15, 16, 18, 20, 21, 22, 23, 25, 127, 128, 170]), (232, [3, 5, 6, 7, 11, 12, 13, 14, 15, 16, 18, 20, 21, 22, 23, 25, 127, 128, 232]), (237, [3, 5, 6, 7, 11, 12, 13, 14, 15, 16, 18, 20, 21, 22, 23, 25, 127, 128, 237])]
set_option maxHeartbeats 32000000 in
theorem keeps_yes (up : List Ces) (hk : gl g_control_kinds = kindsI) (hg : gl g_internal_strconv_uint64pow10 = powI) (m : Mc) (n : Nat) (l : Nat → Ac) (x : Storm)
    (hs : m.smallB = true) (q1 : decide ((n : Int) > 24) = false) (hsh : shortA n l 24 = true) (hH : Hist m n l) (q4 : decide ((x.nw : Int) > 200) = false) (q5 : decide ((x.nh : Int) > 200) = false) (hxw : ∀ i, i < x.nw → 0 ≤ x.w i ∧ x.w i < 256) (hxb : 0 ≤ x.b ∧ x.b < 256) :
    Cs gl n_nacellelaw05_ControlKeeps up [m.iv, .lst none 5 n fun i => (l i).cs, x.iv] (.bool true) up := by
  have hm := hH.ok
  have hf := hm.fea
  have hli := hm.lim
  have hwi := hm.wind
  have hn2 := of_decide_eq_false q1
  have hS := fun up => c_rSmall (gl := gl) up m
  rw [hs] at hS
  have hA := fun up => c_awake (gl := gl) up hk hg
  have hSh := fun up => c_rShort (gl := gl) up n (by omega) l 24
  rw [hsh] at hSh
  have hHi := fun up => c_rHistory (gl := gl) up m n (by omega) l
  have eH : histE m n l = 0 := by
    unfold histE
    rw [Mc.err_of hm, show decide ((n : Int) > 1024) = false from decide_eq_false (by omega), hH.err]; rfl
  rw [eH] at hHi
  have hAc := fun up => c_acts (gl := gl) up n (by omega) l
  have hRe := fun up => c_Replay (gl := gl) up hk m n (by omega) l
  have e0 : repE0 m n = 0 := by
    unfold repE0
    rw [Mc.err_of hm, show decide ((n : Int) > 1024) = false from decide_eq_false (by omega)]; rfl
  rw [e0, hH.err, show ((0 : Int) != 0) = false from rfl] at hRe
  simp only [cond_false] at hRe
  have hgood := hist_good hH n (Nat.le_refl _)
  obtain ⟨s, hseq⟩ : ∃ s, s = repS m l n := ⟨_, rfl⟩
  rw [← hseq] at hRe hgood
  clear hseq e0 eH hsh hH
  have hinv := hgood.inv
  have qsp : decide (s.speed > m.lim) = false := decide_eq_false (by have := hinv.lim; omega)
  cases qr : (!eqS s.mode sRun) with
  | true =>
    refine mk h_nacellelaw05_ControlKeeps rfl rfl ?_
    conv => whnf
    repeat first
      | (refine DRAW.seek ?_; repeat (first | refine TRYD.take ?_ | refine TRYD.next ?_); conv => whnf)
      | (refine HOLD.mk (by first | exact trivial | exact ⟨⟨rfl, rfl⟩, trivial⟩ | exact ⟨⟨rfl, rfl⟩, ⟨rfl, rfl⟩, trivial⟩) ?_; (conv => whnf))
      | (refine CALL0.cutBy lvKeeps _ _ _ _ _ (leL_refl _) (hS ..) rfl ?_; conv => whnf)
      | (refine CALL0.by (hS ..) rfl ?_; conv => whnf)
      | (refine CALLQ.mk _ _ _ (leL_refl _) (hS ..) rfl ?_; conv => whnf)
    split
    · rename_i h
      exact Bool.noConfusion ((q1).symm.trans h)
    rename_i hN
    clear hN
    conv => whnf
    repeat first
      | (refine DRAW.seek ?_; repeat (first | refine TRYD.take ?_ | refine TRYD.next ?_); conv => whnf)
      | (refine HOLD.mk (by first | exact trivial | exact ⟨⟨rfl, rfl⟩, trivial⟩ | exact ⟨⟨rfl, rfl⟩, ⟨rfl, rfl⟩, trivial⟩) ?_; (conv => whnf))
      | (refine CALL0.cutBy lvKeeps _ _ _ _ _ (leL_refl _) (hSh ..) rfl ?_; conv => whnf)
      | (refine CALL0.by (hSh ..) rfl ?_; conv => whnf)
      | (refine CALLQ.mk _ _ _ (leL_refl _) (hSh ..) rfl ?_; conv => whnf)
      | (refine CALL0.cutBy lvKeeps _ _ _ _ _ (leL_refl _) (hHi ..) rfl ?_; conv => whnf)
      | (refine CALL0.by (hHi ..) rfl ?_; conv => whnf)
      | (refine CALLQ.mk _ _ _ (leL_refl _) (hHi ..) rfl ?_; conv => whnf)
    split
    · rename_i h
      exact Bool.noConfusion ((q4).symm.trans h)
    rename_i hN
    clear hN
    conv => whnf
    split
    · rename_i h
      exact Bool.noConfusion ((q5).symm.trans h)
    rename_i hN
    clear hN
    conv => whnf
    repeat first
      | (refine DRAW.seek ?_; repeat (first | refine TRYD.take ?_ | refine TRYD.next ?_); conv => whnf)
      | (refine HOLD.mk (by first | exact trivial | exact ⟨⟨rfl, rfl⟩, trivial⟩ | exact ⟨⟨rfl, rfl⟩, ⟨rfl, rfl⟩, trivial⟩) ?_; (conv => whnf))
      | (refine CALL0.cutBy lvKeeps _ _ _ _ _ (leL_refl _) (c_machine ..) rfl ?_; conv => whnf)
      | (refine CALL0.by (c_machine ..) rfl ?_; conv => whnf)
      | (refine CALLQ.mk _ _ _ (leL_refl _) (c_machine ..) rfl ?_; conv => whnf)
      | (refine CALL0.cutBy lvKeeps _ _ _ _ _ (leL_refl _) (hAc ..) rfl ?_; conv => whnf)
      | (refine CALL0.by (hAc ..) rfl ?_; conv => whnf)
      | (refine CALLQ.mk _ _ _ (leL_refl _) (hAc ..) rfl ?_; conv => whnf)
      | (refine CALL0.cutBy lvKeeps _ _ _ _ _ (leL_refl _) (hRe ..) rfl ?_; conv => whnf)
      | (refine CALL0.by (hRe ..) rfl ?_; conv => whnf)
      | (refine CALLQ.mk _ _ _ (leL_refl _) (hRe ..) rfl ?_; conv => whnf)
    split
    · rename_i h
      exact Bool.noConfusion ((qsp).symm.trans h)
    rename_i hN
    clear hN
    conv => whnf
    split
    rotate_left
    · rename_i h
      exact Bool.noConfusion ((qr).symm.trans h)
    rename_i hN
    clear hN
    conv => whnf
    repeat first
      | (refine DRAW.seek ?_; repeat (first | refine TRYD.take ?_ | refine TRYD.next ?_); conv => whnf)
      | (refine HOLD.mk (by first | exact trivial | exact ⟨⟨rfl, rfl⟩, trivial⟩ | exact ⟨⟨rfl, rfl⟩, ⟨rfl, rfl⟩, trivial⟩) ?_; (conv => whnf))
      | (refine CALL0.cutBy lvKeeps _ _ _ _ _ (leL_refl _) (hA ..) rfl ?_; conv => whnf)
      | (refine CALL0.by (hA ..) rfl ?_; conv => whnf)
      | (refine CALLQ.mk _ _ _ (leL_refl _) (hA ..) rfl ?_; conv => whnf)
    exact ⟨rfl, rfl⟩
  | false =>
  have hrun : eqS s.mode sRun = true := by simpa using qr
  have hmode := eqS_iff.1 hrun
  obtain ⟨al, bh⟩ := stop_allowed (m := m) hmode
  have hNx := fun up => c_NextOk (gl := gl) up hk m s (plainA sStop) hgood.err (stop_act hm)
  rw [al, bh, show ((0 : Int) != 0) = false from rfl] at hNx
  simp only [cond_false] at hNx
  have hsafe := (safeN_iff.1 (hgood.safe hrun))
  obtain ⟨t, ht⟩ : ∃ t : Sta, t = { s with mode := sStop, tor := 0 } := ⟨_, rfl⟩
  have tmode : t.mode = sStop := by rw [ht]
  have ttor : t.tor = 0 := by rw [ht]
  have trng : t.rng m := by rw [ht]; exact ⟨hinv.rng.speed, hinv.rng.p0, hinv.rng.p1, hinv.rng.p2⟩
  have tlim : t.speed ≤ m.lim := by rw [ht]; exact hinv.lim
  have tstk : -1 ≤ t.stuck ∧ t.stuck ≤ 2 := by rw [ht]; exact hinv.stuck
  have tpk : ∀ k : Nat, k < 3 → (t.stuck ≠ -1 ∧ t.stuck ≠ k) ∨ t.pk m k ≤ m.lim := fun k hk3 => by
    rcases hsafe k hk3 with h | h
    · left; rw [ht]; exact h
    · right
      have hle : t.le s := by rw [ht]; exact ⟨Int.le_refl _, Int.le_refl _, Int.le_refl _, Int.le_refl _⟩
      have := pk_le hm hm rfl rfl (Int.le_refl _) (k := (k : Nat)) (k' := (k : Nat)) (by omega) (by omega) (by omega) (by omega) (.inl rfl) trng hinv.rng (by omega) (by have := hinv.lim; omega) hle
      omega
  rw [← ht] at hNx
  have nm : (!eqS t.mode sStop) = false := by rw [tmode, eq_self]; rfl
  have nt : (t.tor != 0) = false := by rw [ttor]; rfl
  clear hsafe bh al hmode
  have hthird : 0 ≤ Int.tmod (IntKind.i64.wrap x.b) 3 ∧ Int.tmod (IntKind.i64.wrap x.b) 3 ≤ 2 := by
    rw [wrap_in (by omega) (by omega)]
    have h1 := Int.tmod_nonneg (a := x.b) 3 hxb.1
    have h2 := Int.tmod_lt_of_pos x.b (b := 3) (by decide)
    omega
  obtain ⟨b, hb⟩ : ∃ b, b = if 0 ≤ t.stuck then t.stuck else Int.tmod (IntKind.i64.wrap x.b) 3 := ⟨_, rfl⟩
  have hb1 : 0 ≤ b ∧ b ≤ 2 := by
    rw [hb]; split <;> omega
  have hbs : t.stuck = -1 ∨ t.stuck = b := by
    rw [hb]; split
    · exact .inr rfl
    · left; omega
  have hbpk : t.pk m b ≤ m.lim := by
    have h := tpk b.toNat (by omega)
    rw [show ((b.toNat : Nat) : Int) = b by omega] at h
    rcases h with ⟨h1, h2⟩ | h
    · rcases hbs with h3 | h3
      · exact absurd h3 h1
      · exact absurd h3 h2
    · exact h
  have hNr := fun up s he => c_NextOk (gl := gl) up hk m s (plainA sRest) he (rest_act hm)
  refine mk h_nacellelaw05_ControlKeeps rfl rfl ?_
  conv => whnf
  repeat first
    | (refine DRAW.seek ?_; repeat (first | refine TRYD.take ?_ | refine TRYD.next ?_); conv => whnf)
    | (refine HOLD.mk (by first | exact trivial | exact ⟨⟨rfl, rfl⟩, trivial⟩ | exact ⟨⟨rfl, rfl⟩, ⟨rfl, rfl⟩, trivial⟩) ?_; (conv => whnf))
    | (refine CALL0.cutBy lvKeeps _ _ _ _ _ (leL_refl _) (hS ..) rfl ?_; conv => whnf)
    | (refine CALL0.by (hS ..) rfl ?_; conv => whnf)
    | (refine CALLQ.mk _ _ _ (leL_refl _) (hS ..) rfl ?_; conv => whnf)
  split
  · rename_i h
    exact Bool.noConfusion ((q1).symm.trans h)
  rename_i hN
  clear hN
  conv => whnf
  repeat first
    | (refine DRAW.seek ?_; repeat (first | refine TRYD.take ?_ | refine TRYD.next ?_); conv => whnf)
    | (refine HOLD.mk (by first | exact trivial | exact ⟨⟨rfl, rfl⟩, trivial⟩ | exact ⟨⟨rfl, rfl⟩, ⟨rfl, rfl⟩, trivial⟩) ?_; (conv => whnf))
    | (refine CALL0.cutBy lvKeeps _ _ _ _ _ (leL_refl _) (hSh ..) rfl ?_; conv => whnf)
    | (refine CALL0.by (hSh ..) rfl ?_; conv => whnf)
    | (refine CALLQ.mk _ _ _ (leL_refl _) (hSh ..) rfl ?_; conv => whnf)
    | (refine CALL0.cutBy lvKeeps _ _ _ _ _ (leL_refl _) (hHi ..) rfl ?_; conv => whnf)
    | (refine CALL0.by (hHi ..) rfl ?_; conv => whnf)
    | (refine CALLQ.mk _ _ _ (leL_refl _) (hHi ..) rfl ?_; conv => whnf)
  split
  · rename_i h
    exact Bool.noConfusion ((q4).symm.trans h)
  rename_i hN
  clear hN
  conv => whnf
  split
  · rename_i h
    exact Bool.noConfusion ((q5).symm.trans h)
  rename_i hN
  clear hN
  conv => whnf
  repeat first
    | (refine DRAW.seek ?_; repeat (first | refine TRYD.take ?_ | refine TRYD.next ?_); conv => whnf)
    | (refine HOLD.mk (by first | exact trivial | exact ⟨⟨rfl, rfl⟩, trivial⟩ | exact ⟨⟨rfl, rfl⟩, ⟨rfl, rfl⟩, trivial⟩) ?_; (conv => whnf))
    | (refine CALL0.cutBy lvKeeps _ _ _ _ _ (leL_refl _) (c_machine ..) rfl ?_; conv => whnf)
    | (refine CALL0.by (c_machine ..) rfl ?_; conv => whnf)
    | (refine CALLQ.mk _ _ _ (leL_refl _) (c_machine ..) rfl ?_; conv => whnf)
    | (refine CALL0.cutBy lvKeeps _ _ _ _ _ (leL_refl _) (hAc ..) rfl ?_; conv => whnf)
    | (refine CALL0.by (hAc ..) rfl ?_; conv => whnf)
    | (refine CALLQ.mk _ _ _ (leL_refl _) (hAc ..) rfl ?_; conv => whnf)
    | (refine CALL0.cutBy lvKeeps _ _ _ _ _ (leL_refl _) (hRe ..) rfl ?_; conv => whnf)
    | (refine CALL0.by (hRe ..) rfl ?_; conv => whnf)
    | (refine CALLQ.mk _ _ _ (leL_refl _) (hRe ..) rfl ?_; conv => whnf)
  split
  · rename_i h
    exact Bool.noConfusion ((qsp).symm.trans h)
  rename_i hN
  clear hN
  conv => whnf
  split
  · rename_i h
    exact Bool.noConfusion ((qr).symm.trans h)
  rename_i hN
  clear hN
  conv => whnf
  repeat first
    | (refine DRAW.seek ?_; repeat (first | refine TRYD.take ?_ | refine TRYD.next ?_); conv => whnf)
    | (refine HOLD.mk (by first | exact trivial | exact ⟨⟨rfl, rfl⟩, trivial⟩ | exact ⟨⟨rfl, rfl⟩, ⟨rfl, rfl⟩, trivial⟩) ?_; (conv => whnf))
    | (refine CALL0.cutBy lvKeeps _ _ _ _ _ (leL_refl _) (c_machine ..) rfl ?_; conv => whnf)
    | (refine CALL0.by (c_machine ..) rfl ?_; conv => whnf)
    | (refine CALLQ.mk _ _ _ (leL_refl _) (c_machine ..) rfl ?_; conv => whnf)
    | (refine CALL0.cutBy lvKeeps _ _ _ _ _ (leL_refl _) (hNx ..) rfl ?_; conv => whnf)
    | (refine CALL0.by (hNx ..) rfl ?_; conv => whnf)
    | (refine CALLQ.mk _ _ _ (leL_refl _) (hNx ..) rfl ?_; conv => whnf)
  split
  · rename_i h
    exact Bool.noConfusion ((nm).symm.trans h)
  rename_i hN
  clear hN
  conv => whnf
  split
  · rename_i h
    exact Bool.noConfusion ((nt).symm.trans h)
  rename_i hN
  clear hN
  conv => whnf
  apply joinL (ι := Unit) (Inv0 := fun _ => ⟨[(128, .int .i64 ((0 : Nat) : Int)), (127, .int .i64 (w64 (w64 (m.fea + m.lim) + 1))), (11, .int .i64 b), (13, .int .i64 t.speed), (12, .ptr 0 12 0), (7, .ptr 0 7 0), (5, .ptr 0 5 0), (3, .ptr 0 3 0)], [(12, [.int .i64 t.p0, .int .i64 t.p1, .int .i64 t.p2]), (7, t.cs), (5, x.cs), (3, m.cs)], up⟩) (C := fun _ => True)
  case main =>
    intro key
    cases q6 : decide (t.stuck ≥ 0) with
    | true =>
      have h6 := of_decide_eq_true q6
      have q7 : decide (t.stuck < 3) = true := decide_eq_true (by omega)
      have eb : t.stuck = b := by rw [hb, if_pos (by omega)]
      conv => whnf
      split
      rotate_left
      · rename_i h
        exact Bool.noConfusion ((q7).symm.trans h)
      rename_i hN
      clear hN
      conv => whnf
      repeat first
        | (refine DRAW.seek ?_; repeat (first | refine TRYD.take ?_ | refine TRYD.next ?_); conv => whnf)
        | (refine HOLD.mk (by first | exact trivial | exact ⟨⟨rfl, rfl⟩, trivial⟩ | exact ⟨⟨rfl, rfl⟩, ⟨rfl, rfl⟩, trivial⟩) ?_; (conv => whnf))
      exact key () _ trivial ⟨⟨leV_refl _, leV_refl _, leV_int eb, leV_refl _, leV_refl _, leV_refl _, leV_refl _, leV_refl _, trivial⟩, ⟨leL_refl _, leL_refl _, leL_refl _, leL_refl _, trivial⟩, rfl, rfl⟩
    | false =>
      have h6 := of_decide_eq_false q6
      have eb : Int.tmod (IntKind.i64.wrap x.b) 3 = b := by rw [hb, if_neg (by omega)]
      conv => whnf
      repeat first
        | (refine DRAW.seek ?_; repeat (first | refine TRYD.take ?_ | refine TRYD.next ?_); conv => whnf)
        | (refine HOLD.mk (by first | exact trivial | exact ⟨⟨rfl, rfl⟩, trivial⟩ | exact ⟨⟨rfl, rfl⟩, ⟨rfl, rfl⟩, trivial⟩) ?_; (conv => whnf))
      exact key () _ trivial ⟨⟨leV_refl _, leV_refl _, leV_int eb, leV_refl _, leV_refl _, leV_refl _, leV_refl _, leV_refl _, trivial⟩, ⟨leL_refl _, leL_refl _, leL_refl _, leL_refl _, trivial⟩, rfl, rfl⟩
  case key =>
    rintro ⟨⟩ _
    refine ⟨{y : Nat × Sta // (y.1 : Int) ≤ m.fea + m.lim ∧ BrakeI m t b y.1 y.2}, fun y => ⟨[(128, .int .i64 ((y.1.1 : Nat) : Int)), (127, .int .i64 (w64 (w64 (m.fea + m.lim) + 1))), (11, .int .i64 b), (13, .int .i64 y.1.2.speed), (12, .ptr 0 12 0), (7, .ptr 0 7 0), (5, .ptr 0 5 0), (3, .ptr 0 3 0)], [(12, [.int .i64 y.1.2.p0, .int .i64 y.1.2.p1, .int .i64 y.1.2.p2]), (7, y.1.2.cs), (5, x.cs), (3, m.cs)], up⟩, fun y => (m.fea + m.lim).toNat - y.1.1, ⟨(0, t), by show ((0 : Nat) : Int) ≤ _; omega, brake_start hm trng tlim tmode ttor hbs⟩, rfl, ?_⟩
    rintro ⟨⟨j, s⟩, hj, hB⟩
    have rng := hB.rng
    have hsl := hB.lim
    have herr := brake_err hm hb1.1 hb1.2 hB
    have hwT : w64 (w64 (m.fea + m.lim) + 1) = m.fea + m.lim + 1 := by
      have : w64 (m.fea + m.lim) = m.fea + m.lim := by rw [w64, wrap_in] <;> omega
      rw [this, w64, wrap_in] <;> omega
    have hj' : (j : Int) ≤ m.fea + m.lim := hj
    have qj : decide ((j : Int) < w64 (w64 (m.fea + m.lim) + 1)) = true := by rw [hwT]; exact decide_eq_true (by omega)
    have hwj : w64 ((j : Int) + 1) = ((j + 1 : Nat) : Int) := by rw [w64, wrap_in] <;> omega
    have qz : (w64 (m.wind + 1) != 0) = true := by
      rw [w64, wrap_in (by omega) (by omega)]
      have : ¬ m.wind + 1 = 0 := by omega
      simpa using this
    have hNr := fun up => hNr up s herr
    rw [rest_allowed hB.mode] at hNr
    conv => whnf
    split
    rotate_left
    · rename_i h
      exact Bool.noConfusion ((qj).symm.trans h)
    rename_i hN
    clear hN
    conv => whnf
    refine .mk (α := {k : Nat // k ≤ 3}) (fun k => ⟨[(134, .int .i64 k.1), (133, .agg [.int .i64 s.p0, .int .i64 s.p1, .int .i64 s.p2]), (15, .int .i64 (atA m.fea ([s.p0, s.p1, s.p2].take k.1))), (16, .bool (s.speed == 0)), (14, .int .i64 j), (128, .int .i64 (j : Int)), (127, .int .i64 (w64 (w64 (m.fea + m.lim) + 1))), (11, .int .i64 b), (13, .int .i64 s.speed), (12, .ptr 0 12 0), (7, .ptr 0 7 0), (5, .ptr 0 5 0), (3, .ptr 0 3 0)], [(12, [.int .i64 s.p0, .int .i64 s.p1, .int .i64 s.p2]), (7, s.cs), (5, x.cs), (3, m.cs)], up⟩) (fun k => 3 - k.1) ⟨0, Nat.zero_le _⟩ ⟨⟨leV_refl _, leV_refl _, leV_refl _, leV_refl _, leV_refl _, leV_refl _, leV_refl _, leV_refl _, leV_refl _, leV_refl _, leV_refl _, leV_refl _, leV_refl _, trivial⟩, ⟨leL_refl _, leL_refl _, leL_refl _, leL_refl _, trivial⟩, rfl, rfl⟩ ?_
    rintro ⟨k, hk3⟩
    obtain rfl | rfl | rfl | rfl : k = 0 ∨ k = 1 ∨ k = 2 ∨ k = 3 := by omega
    · cases q : (s.p0 == m.fea) with
      | true =>
        have e : s.p0 = m.fea := by simpa using q
        conv => whnf
        split
        rotate_left
        · rename_i h
          exact Bool.noConfusion ((q).symm.trans h)
        rename_i hN
        clear hN
        conv => whnf
        refine ⟨⟨1, by omega⟩, ⟨⟨leV_refl _, leV_refl _, leV_int ?_, leV_refl _, leV_refl _, leV_refl _, leV_refl _, leV_refl _, leV_refl _, leV_refl _, leV_refl _, leV_refl _, leV_refl _, trivial⟩, ⟨leL_refl _, leL_refl _, leL_refl _, leL_refl _, trivial⟩, rfl, rfl⟩, by simp⟩
        show w64 (atA m.fea ([s.p0, s.p1, s.p2].take 0) + 1) = atA m.fea ([s.p0, s.p1, s.p2].take 1)
        simp only [List.take, atA, e, if_true]
        rw [w64, wrap_in (by repeat (first | omega | split)) (by repeat (first | omega | split))]
        omega
      | false =>
        have e : ¬ s.p0 = m.fea := by simpa using q
        conv => whnf
        split
        · rename_i h
          exact Bool.noConfusion ((q).symm.trans h)
        rename_i hN
        clear hN
        conv => whnf
        refine ⟨⟨1, by omega⟩, ⟨⟨leV_refl _, leV_refl _, leV_int ?_, leV_refl _, leV_refl _, leV_refl _, leV_refl _, leV_refl _, leV_refl _, leV_refl _, leV_refl _, leV_refl _, leV_refl _, trivial⟩, ⟨leL_refl _, leL_refl _, leL_refl _, leL_refl _, trivial⟩, rfl, rfl⟩, by simp⟩
        simp only [List.take, atA, if_neg e]
        omega
    · cases q : (s.p1 == m.fea) with
      | true =>
        have e : s.p1 = m.fea := by simpa using q
        conv => whnf
        split
        rotate_left
        · rename_i h
          exact Bool.noConfusion ((q).symm.trans h)
        rename_i hN
        clear hN
        conv => whnf
        refine ⟨⟨2, by omega⟩, ⟨⟨leV_refl _, leV_refl _, leV_int ?_, leV_refl _, leV_refl _, leV_refl _, leV_refl _, leV_refl _, leV_refl _, leV_refl _, leV_refl _, leV_refl _, leV_refl _, trivial⟩, ⟨leL_refl _, leL_refl _, leL_refl _, leL_refl _, trivial⟩, rfl, rfl⟩, by simp⟩
        show w64 (atA m.fea ([s.p0, s.p1, s.p2].take 1) + 1) = atA m.fea ([s.p0, s.p1, s.p2].take 2)
        simp only [List.take, atA, e, if_true]
        rw [w64, wrap_in (by repeat (first | omega | split)) (by repeat (first | omega | split))]
        omega
      | false =>
        have e : ¬ s.p1 = m.fea := by simpa using q
        conv => whnf
        split
        · rename_i h
          exact Bool.noConfusion ((q).symm.trans h)
        rename_i hN
        clear hN
        conv => whnf
        refine ⟨⟨2, by omega⟩, ⟨⟨leV_refl _, leV_refl _, leV_int ?_, leV_refl _, leV_refl _, leV_refl _, leV_refl _, leV_refl _, leV_refl _, leV_refl _, leV_refl _, leV_refl _, leV_refl _, trivial⟩, ⟨leL_refl _, leL_refl _, leL_refl _, leL_refl _, trivial⟩, rfl, rfl⟩, by simp⟩
        simp only [List.take, atA, if_neg e]
        omega
    · cases q : (s.p2 == m.fea) with
      | true =>
        have e : s.p2 = m.fea := by simpa using q
        conv => whnf
        split
        rotate_left
        · rename_i h
          exact Bool.noConfusion ((q).symm.trans h)
        rename_i hN
        clear hN
        conv => whnf
        refine ⟨⟨3, by omega⟩, ⟨⟨leV_refl _, leV_refl _, leV_int ?_, leV_refl _, leV_refl _, leV_refl _, leV_refl _, leV_refl _, leV_refl _, leV_refl _, leV_refl _, leV_refl _, leV_refl _, trivial⟩, ⟨leL_refl _, leL_refl _, leL_refl _, leL_refl _, trivial⟩, rfl, rfl⟩, by simp⟩
        show w64 (atA m.fea ([s.p0, s.p1, s.p2].take 2) + 1) = atA m.fea ([s.p0, s.p1, s.p2].take 3)
        simp only [List.take, atA, e, if_true]
        rw [w64, wrap_in (by repeat (first | omega | split)) (by repeat (first | omega | split))]
        omega
      | false =>
        have e : ¬ s.p2 = m.fea := by simpa using q
        conv => whnf
        split
        · rename_i h
          exact Bool.noConfusion ((q).symm.trans h)
        rename_i hN
        clear hN
        conv => whnf
        refine ⟨⟨3, by omega⟩, ⟨⟨leV_refl _, leV_refl _, leV_int ?_, leV_refl _, leV_refl _, leV_refl _, leV_refl _, leV_refl _, leV_refl _, leV_refl _, leV_refl _, leV_refl _, leV_refl _, trivial⟩, ⟨leL_refl _, leL_refl _, leL_refl _, leL_refl _, trivial⟩, rfl, rfl⟩, by simp⟩
        simp only [List.take, atA, if_neg e]
        omega
    · cases hR : s.restsB m with
      | true =>
        rw [hR] at hNr
        have hR' := hR
        unfold Sta.restsB at hR'
        rw [Bool.and_eq_true] at hR'
        obtain ⟨hsp0, ha2⟩ := hR'
        obtain ⟨z, hz⟩ : ∃ z, z = s.behindW m (plainA sRest) := ⟨_, rfl⟩
        have nzm : (!eqS z.mode sIdle) = false := by rw [hz, rest_behind, eq_self]; rfl
        rw [← hz] at hNr
        have hNr : ∀ up, Cs gl n_control_Next up [m.iv, s.iv, (plainA sRest).iv] (.tup [z.iv, .int .i64 0]) up := hNr
        have nq : (!(true == decide (atA m.fea [s.p0, s.p1, s.p2] ≥ 2))) = false := by rw [ha2]; rfl
        conv => whnf
        split
        rotate_left
        · rename_i h
          exact Bool.noConfusion ((hsp0).symm.trans h)
        rename_i hN
        clear hN
        conv => whnf
        repeat first
          | (refine DRAW.seek ?_; repeat (first | refine TRYD.take ?_ | refine TRYD.next ?_); conv => whnf)
          | (refine HOLD.mk (by first | exact trivial | exact ⟨⟨rfl, rfl⟩, trivial⟩ | exact ⟨⟨rfl, rfl⟩, ⟨rfl, rfl⟩, trivial⟩) ?_; (conv => whnf))
          | (refine CALL0.cutBy lvKeeps _ _ _ _ _ (leL_refl _) (c_machine ..) rfl ?_; conv => whnf)
          | (refine CALL0.by (c_machine ..) rfl ?_; conv => whnf)
          | (refine CALLQ.mk _ _ _ (leL_refl _) (c_machine ..) rfl ?_; conv => whnf)
          | (refine CALL0.cutBy lvKeeps _ _ _ _ _ (leL_refl _) (hNr ..) rfl ?_; conv => whnf)
          | (refine CALL0.by (hNr ..) rfl ?_; conv => whnf)
          | (refine CALLQ.mk _ _ _ (leL_refl _) (hNr ..) rfl ?_; conv => whnf)
        split
        · rename_i h
          exact Bool.noConfusion ((nq).symm.trans h)
        rename_i hN
        clear hN
        conv => whnf
        split
        rotate_left
        · rename_i h
          exact Bool.noConfusion ((ha2).symm.trans h)
        rename_i hN
        clear hN
        conv => whnf
        split
        · rename_i h
          exact Bool.noConfusion ((nzm).symm.trans h)
        rename_i hN
        clear hN
        conv => whnf
        split
        rotate_left
        · rename_i h
          exact Bool.noConfusion ((ha2).symm.trans h)
        rename_i hN
        clear hN
        conv => whnf
        repeat first
          | (refine DRAW.seek ?_; repeat (first | refine TRYD.take ?_ | refine TRYD.next ?_); conv => whnf)
          | (refine HOLD.mk (by first | exact trivial | exact ⟨⟨rfl, rfl⟩, trivial⟩ | exact ⟨⟨rfl, rfl⟩, ⟨rfl, rfl⟩, trivial⟩) ?_; (conv => whnf))
          | (refine CALL0.cutBy lvKeeps _ _ _ _ _ (leL_refl _) (hA ..) rfl ?_; conv => whnf)
          | (refine CALL0.by (hA ..) rfl ?_; conv => whnf)
          | (refine CALLQ.mk _ _ _ (leL_refl _) (hA ..) rfl ?_; conv => whnf)
        exact ⟨rfl, rfl⟩
      | false =>
        rw [hR] at hNr
        have hNr : ∀ up, Cs gl n_control_Next up [m.iv, s.iv, (plainA sRest).iv] (.tup [Sta.zero.iv, .int .i64 19]) up := hNr
        have hjlt : (j : Int) < m.fea + m.lim := by
          by_cases h : (j : Int) = m.fea + m.lim
          · rw [brake_end hm hb1.1 hb1.2 hB h] at hR; cases hR
          · omega
        apply joinL (ι := Int × Int) (Inv0 := fun i => ⟨[(205, .int .i64 ((0 : Nat) : Int)), (22, .int .i64 i.2), (21, .int .i64 i.1), (13, .int .i64 (spdK s m i.1 i.2 0)), (128, .int .i64 (j : Int)), (127, .int .i64 (w64 (w64 (m.fea + m.lim) + 1))), (11, .int .i64 b), (12, .ptr 0 12 0), (7, .ptr 0 7 0), (5, .ptr 0 5 0), (3, .ptr 0 3 0)], [(12, [.int .i64 s.p0, .int .i64 s.p1, .int .i64 s.p2]), (7, s.cs), (5, x.cs), (3, m.cs)], up⟩) (C := fun i => (0 ≤ i.1 ∧ i.1 ≤ m.wind) ∧ (i.2 = b ∨ i.2 = -1))
        case main =>
          intro key
          cases hsp0 : (s.speed == 0) with
          | false =>
            cases qw : decide ((j : Int) < x.nw) with
            | true =>
              have hjw := of_decide_eq_true qw
              have hxj := hxw j (by omega)
              have hwW : 0 ≤ Int.tmod (IntKind.i64.wrap (x.w j)) (w64 (m.wind + 1)) ∧ Int.tmod (IntKind.i64.wrap (x.w j)) (w64 (m.wind + 1)) ≤ m.wind := by
                rw [wrap_in (by omega) (by omega), w64, wrap_in (by omega) (by omega)]
                have h1 := Int.tmod_nonneg (a := x.w j) (m.wind + 1) hxj.1
                have h2 := Int.tmod_lt_of_pos (x.w j) (b := m.wind + 1) (by omega)
                omega
              cases qh : decide ((j : Int) < x.nh) with
              | false =>
                conv => whnf
                repeat first
                  | (refine DRAW.seek ?_; repeat (first | refine TRYD.take ?_ | refine TRYD.next ?_); conv => whnf)
                  | (refine HOLD.mk (by first | exact trivial | exact ⟨⟨rfl, rfl⟩, trivial⟩ | exact ⟨⟨rfl, rfl⟩, ⟨rfl, rfl⟩, trivial⟩) ?_; (conv => whnf))
                  | (refine CALL0.cutBy lvKeeps _ _ _ _ _ (leL_refl _) (c_machine ..) rfl ?_; conv => whnf)
                  | (refine CALL0.by (c_machine ..) rfl ?_; conv => whnf)
                  | (refine CALLQ.mk _ _ _ (leL_refl _) (c_machine ..) rfl ?_; conv => whnf)
                  | (refine CALL0.cutBy lvKeeps _ _ _ _ _ (leL_refl _) (hNr ..) rfl ?_; conv => whnf)
                  | (refine CALL0.by (hNr ..) rfl ?_; conv => whnf)
                  | (refine CALLQ.mk _ _ _ (leL_refl _) (hNr ..) rfl ?_; conv => whnf)
                split
                rotate_left
                · rename_i h
                  exact Bool.noConfusion ((qw).symm.trans h)
                rename_i hN
                clear hN
                conv => whnf
                refine DRAW.seek ?_
                repeat (first | refine TRYD.take ?_ | refine TRYD.next ?_)
                conv => whnf
                split
                rotate_left
                · rename_i h
                  exact Bool.noConfusion ((qw).symm.trans h)
                rename_i hN
                clear hN
                conv => whnf
                split
                rotate_left
                · rename_i h
                  exact Bool.noConfusion ((qz).symm.trans h)
                rename_i hN
                clear hN
                conv => whnf
                split
                · rename_i h
                  exact Bool.noConfusion ((qh).symm.trans h)
                rename_i hN
                clear hN
                conv => whnf
                exact key (Int.tmod (IntKind.i64.wrap (x.w j)) (w64 (m.wind + 1)), b) _ ⟨hwW, .inl rfl⟩ ⟨⟨leV_refl _, leV_refl _, leV_refl _, leV_refl _, leV_refl _, leV_refl _, leV_refl _, leV_refl _, leV_refl _, leV_refl _, leV_refl _, trivial⟩, ⟨leL_refl _, leL_refl _, leL_refl _, leL_refl _, trivial⟩, rfl, rfl⟩
              | true =>
                cases qx : x.h j with
                | true =>
                  have nx : (!x.h j) = false := by rw [qx]; rfl
                  conv => whnf
                  repeat first
                    | (refine DRAW.seek ?_; repeat (first | refine TRYD.take ?_ | refine TRYD.next ?_); conv => whnf)
                    | (refine HOLD.mk (by first | exact trivial | exact ⟨⟨rfl, rfl⟩, trivial⟩ | exact ⟨⟨rfl, rfl⟩, ⟨rfl, rfl⟩, trivial⟩) ?_; (conv => whnf))
                    | (refine CALL0.cutBy lvKeeps _ _ _ _ _ (leL_refl _) (c_machine ..) rfl ?_; conv => whnf)
                    | (refine CALL0.by (c_machine ..) rfl ?_; conv => whnf)
                    | (refine CALLQ.mk _ _ _ (leL_refl _) (c_machine ..) rfl ?_; conv => whnf)
                    | (refine CALL0.cutBy lvKeeps _ _ _ _ _ (leL_refl _) (hNr ..) rfl ?_; conv => whnf)
                    | (refine CALL0.by (hNr ..) rfl ?_; conv => whnf)
                    | (refine CALLQ.mk _ _ _ (leL_refl _) (hNr ..) rfl ?_; conv => whnf)
                  split
                  rotate_left
                  · rename_i h
                    exact Bool.noConfusion ((qw).symm.trans h)
                  rename_i hN
                  clear hN
                  conv => whnf
                  refine DRAW.seek ?_
                  repeat (first | refine TRYD.take ?_ | refine TRYD.next ?_)
                  conv => whnf
                  split
                  rotate_left
                  · rename_i h
                    exact Bool.noConfusion ((qw).symm.trans h)
                  rename_i hN
                  clear hN
                  conv => whnf
                  split
                  rotate_left
                  · rename_i h
                    exact Bool.noConfusion ((qz).symm.trans h)
                  rename_i hN
                  clear hN
                  conv => whnf
                  split
                  rotate_left
                  · rename_i h
                    exact Bool.noConfusion ((qh).symm.trans h)
                  rename_i hN
                  clear hN
                  conv => whnf
                  split
                  rotate_left
                  · rename_i h
                    exact Bool.noConfusion ((qh).symm.trans h)
                  rename_i hN
                  clear hN
                  conv => whnf
                  split
                  · rename_i h
                    exact Bool.noConfusion ((nx).symm.trans h)
                  rename_i hN
                  clear hN
                  conv => whnf
                  exact key (Int.tmod (IntKind.i64.wrap (x.w j)) (w64 (m.wind + 1)), b) _ ⟨hwW, .inl rfl⟩ ⟨⟨leV_refl _, leV_refl _, leV_refl _, leV_refl _, leV_refl _, leV_refl _, leV_refl _, leV_refl _, leV_refl _, leV_refl _, leV_refl _, trivial⟩, ⟨leL_refl _, leL_refl _, leL_refl _, leL_refl _, trivial⟩, rfl, rfl⟩
                | false =>
                  have nx : (!x.h j) = true := by rw [qx]; rfl
                  conv => whnf
                  repeat first
                    | (refine DRAW.seek ?_; repeat (first | refine TRYD.take ?_ | refine TRYD.next ?_); conv => whnf)
                    | (refine HOLD.mk (by first | exact trivial | exact ⟨⟨rfl, rfl⟩, trivial⟩ | exact ⟨⟨rfl, rfl⟩, ⟨rfl, rfl⟩, trivial⟩) ?_; (conv => whnf))
                    | (refine CALL0.cutBy lvKeeps _ _ _ _ _ (leL_refl _) (c_machine ..) rfl ?_; conv => whnf)
                    | (refine CALL0.by (c_machine ..) rfl ?_; conv => whnf)
                    | (refine CALLQ.mk _ _ _ (leL_refl _) (c_machine ..) rfl ?_; conv => whnf)
                    | (refine CALL0.cutBy lvKeeps _ _ _ _ _ (leL_refl _) (hNr ..) rfl ?_; conv => whnf)
                    | (refine CALL0.by (hNr ..) rfl ?_; conv => whnf)
                    | (refine CALLQ.mk _ _ _ (leL_refl _) (hNr ..) rfl ?_; conv => whnf)
                  split
                  rotate_left
                  · rename_i h
                    exact Bool.noConfusion ((qw).symm.trans h)
                  rename_i hN
                  clear hN
                  conv => whnf
                  refine DRAW.seek ?_
                  repeat (first | refine TRYD.take ?_ | refine TRYD.next ?_)
                  conv => whnf
                  split
                  rotate_left
                  · rename_i h
                    exact Bool.noConfusion ((qw).symm.trans h)
                  rename_i hN
                  clear hN
                  conv => whnf
                  split
                  rotate_left
                  · rename_i h
                    exact Bool.noConfusion ((qz).symm.trans h)
                  rename_i hN
                  clear hN
                  conv => whnf
                  split
                  rotate_left
                  · rename_i h
                    exact Bool.noConfusion ((qh).symm.trans h)
                  rename_i hN
                  clear hN
                  conv => whnf
                  split
                  rotate_left
                  · rename_i h
                    exact Bool.noConfusion ((qh).symm.trans h)
                  rename_i hN
                  clear hN
                  conv => whnf
                  split
                  rotate_left
                  · rename_i h
                    exact Bool.noConfusion ((nx).symm.trans h)
                  rename_i hN
                  clear hN
                  conv => whnf
                  exact key (Int.tmod (IntKind.i64.wrap (x.w j)) (w64 (m.wind + 1)), -1) _ ⟨hwW, .inr rfl⟩ ⟨⟨leV_refl _, leV_refl _, leV_refl _, leV_refl _, leV_refl _, leV_refl _, leV_refl _, leV_refl _, leV_refl _, leV_refl _, leV_refl _, trivial⟩, ⟨leL_refl _, leL_refl _, leL_refl _, leL_refl _, trivial⟩, rfl, rfl⟩
            | false =>
              cases qh : decide ((j : Int) < x.nh) with
              | false =>
                conv => whnf
                repeat first
                  | (refine DRAW.seek ?_; repeat (first | refine TRYD.take ?_ | refine TRYD.next ?_); conv => whnf)
                  | (refine HOLD.mk (by first | exact trivial | exact ⟨⟨rfl, rfl⟩, trivial⟩ | exact ⟨⟨rfl, rfl⟩, ⟨rfl, rfl⟩, trivial⟩) ?_; (conv => whnf))
                  | (refine CALL0.cutBy lvKeeps _ _ _ _ _ (leL_refl _) (c_machine ..) rfl ?_; conv => whnf)
                  | (refine CALL0.by (c_machine ..) rfl ?_; conv => whnf)
                  | (refine CALLQ.mk _ _ _ (leL_refl _) (c_machine ..) rfl ?_; conv => whnf)
                  | (refine CALL0.cutBy lvKeeps _ _ _ _ _ (leL_refl _) (hNr ..) rfl ?_; conv => whnf)
                  | (refine CALL0.by (hNr ..) rfl ?_; conv => whnf)
                  | (refine CALLQ.mk _ _ _ (leL_refl _) (hNr ..) rfl ?_; conv => whnf)
                split
                · rename_i h
                  exact Bool.noConfusion ((qw).symm.trans h)
                rename_i hN
                clear hN
                conv => whnf
                split
                · rename_i h
                  exact Bool.noConfusion ((qh).symm.trans h)
                rename_i hN
                clear hN
                conv => whnf
                exact key (m.wind, b) _ ⟨⟨by omega, Int.le_refl _⟩, .inl rfl⟩ ⟨⟨leV_refl _, leV_refl _, leV_refl _, leV_refl _, leV_refl _, leV_refl _, leV_refl _, leV_refl _, leV_refl _, leV_refl _, leV_refl _, trivial⟩, ⟨leL_refl _, leL_refl _, leL_refl _, leL_refl _, trivial⟩, rfl, rfl⟩
              | true =>
                cases qx : x.h j with
                | true =>
                  have nx : (!x.h j) = false := by rw [qx]; rfl
                  conv => whnf
                  repeat first
                    | (refine DRAW.seek ?_; repeat (first | refine TRYD.take ?_ | refine TRYD.next ?_); conv => whnf)
                    | (refine HOLD.mk (by first | exact trivial | exact ⟨⟨rfl, rfl⟩, trivial⟩ | exact ⟨⟨rfl, rfl⟩, ⟨rfl, rfl⟩, trivial⟩) ?_; (conv => whnf))
                    | (refine CALL0.cutBy lvKeeps _ _ _ _ _ (leL_refl _) (c_machine ..) rfl ?_; conv => whnf)
                    | (refine CALL0.by (c_machine ..) rfl ?_; conv => whnf)
                    | (refine CALLQ.mk _ _ _ (leL_refl _) (c_machine ..) rfl ?_; conv => whnf)
                    | (refine CALL0.cutBy lvKeeps _ _ _ _ _ (leL_refl _) (hNr ..) rfl ?_; conv => whnf)
                    | (refine CALL0.by (hNr ..) rfl ?_; conv => whnf)
                    | (refine CALLQ.mk _ _ _ (leL_refl _) (hNr ..) rfl ?_; conv => whnf)
                  split
                  · rename_i h
                    exact Bool.noConfusion ((qw).symm.trans h)
                  rename_i hN
                  clear hN
                  conv => whnf
                  split
                  rotate_left
                  · rename_i h
                    exact Bool.noConfusion ((qh).symm.trans h)
                  rename_i hN
                  clear hN
                  conv => whnf
                  split
                  rotate_left
                  · rename_i h
                    exact Bool.noConfusion ((qh).symm.trans h)
                  rename_i hN
                  clear hN
                  conv => whnf
                  split
                  · rename_i h
                    exact Bool.noConfusion ((nx).symm.trans h)
                  rename_i hN
                  clear hN
                  conv => whnf
                  exact key (m.wind, b) _ ⟨⟨by omega, Int.le_refl _⟩, .inl rfl⟩ ⟨⟨leV_refl _, leV_refl _, leV_refl _, leV_refl _, leV_refl _, leV_refl _, leV_refl _, leV_refl _, leV_refl _, leV_refl _, leV_refl _, trivial⟩, ⟨leL_refl _, leL_refl _, leL_refl _, leL_refl _, trivial⟩, rfl, rfl⟩
                | false =>
                  have nx : (!x.h j) = true := by rw [qx]; rfl
                  conv => whnf
                  repeat first
                    | (refine DRAW.seek ?_; repeat (first | refine TRYD.take ?_ | refine TRYD.next ?_); conv => whnf)
                    | (refine HOLD.mk (by first | exact trivial | exact ⟨⟨rfl, rfl⟩, trivial⟩ | exact ⟨⟨rfl, rfl⟩, ⟨rfl, rfl⟩, trivial⟩) ?_; (conv => whnf))
                    | (refine CALL0.cutBy lvKeeps _ _ _ _ _ (leL_refl _) (c_machine ..) rfl ?_; conv => whnf)
                    | (refine CALL0.by (c_machine ..) rfl ?_; conv => whnf)
                    | (refine CALLQ.mk _ _ _ (leL_refl _) (c_machine ..) rfl ?_; conv => whnf)
                    | (refine CALL0.cutBy lvKeeps _ _ _ _ _ (leL_refl _) (hNr ..) rfl ?_; conv => whnf)
                    | (refine CALL0.by (hNr ..) rfl ?_; conv => whnf)
                    | (refine CALLQ.mk _ _ _ (leL_refl _) (hNr ..) rfl ?_; conv => whnf)
                  split
                  · rename_i h
                    exact Bool.noConfusion ((qw).symm.trans h)
                  rename_i hN
                  clear hN
                  conv => whnf
                  split
                  rotate_left
                  · rename_i h
                    exact Bool.noConfusion ((qh).symm.trans h)
                  rename_i hN
                  clear hN
                  conv => whnf
                  split
                  rotate_left
                  · rename_i h
                    exact Bool.noConfusion ((qh).symm.trans h)
                  rename_i hN
                  clear hN
                  conv => whnf
                  split
                  rotate_left
                  · rename_i h
                    exact Bool.noConfusion ((nx).symm.trans h)
                  rename_i hN
                  clear hN
                  conv => whnf
                  exact key (m.wind, -1) _ ⟨⟨by omega, Int.le_refl _⟩, .inr rfl⟩ ⟨⟨leV_refl _, leV_refl _, leV_refl _, leV_refl _, leV_refl _, leV_refl _, leV_refl _, leV_refl _, leV_refl _, leV_refl _, leV_refl _, trivial⟩, ⟨leL_refl _, leL_refl _, leL_refl _, leL_refl _, trivial⟩, rfl, rfl⟩
          | true =>
            have ha2 : decide (atA m.fea [s.p0, s.p1, s.p2] ≥ 2) = false := by
              have h := hR
              unfold Sta.restsB at h
              rw [hsp0, Bool.true_and] at h
              exact h
            have nq : (!(false == decide (atA m.fea [s.p0, s.p1, s.p2] ≥ 2))) = false := by rw [ha2]; rfl
            cases qw : decide ((j : Int) < x.nw) with
            | true =>
              have hjw := of_decide_eq_true qw
              have hxj := hxw j (by omega)
              have hwW : 0 ≤ Int.tmod (IntKind.i64.wrap (x.w j)) (w64 (m.wind + 1)) ∧ Int.tmod (IntKind.i64.wrap (x.w j)) (w64 (m.wind + 1)) ≤ m.wind := by
                rw [wrap_in (by omega) (by omega), w64, wrap_in (by omega) (by omega)]
                have h1 := Int.tmod_nonneg (a := x.w j) (m.wind + 1) hxj.1
                have h2 := Int.tmod_lt_of_pos (x.w j) (b := m.wind + 1) (by omega)
                omega
              cases qh : decide ((j : Int) < x.nh) with
              | false =>
                conv => whnf
                repeat first
                  | (refine DRAW.seek ?_; repeat (first | refine TRYD.take ?_ | refine TRYD.next ?_); conv => whnf)
                  | (refine HOLD.mk (by first | exact trivial | exact ⟨⟨rfl, rfl⟩, trivial⟩ | exact ⟨⟨rfl, rfl⟩, ⟨rfl, rfl⟩, trivial⟩) ?_; (conv => whnf))
                  | (refine CALL0.cutBy lvKeeps _ _ _ _ _ (leL_refl _) (c_machine ..) rfl ?_; conv => whnf)
                  | (refine CALL0.by (c_machine ..) rfl ?_; conv => whnf)
                  | (refine CALLQ.mk _ _ _ (leL_refl _) (c_machine ..) rfl ?_; conv => whnf)
                  | (refine CALL0.cutBy lvKeeps _ _ _ _ _ (leL_refl _) (hNr ..) rfl ?_; conv => whnf)
                  | (refine CALL0.by (hNr ..) rfl ?_; conv => whnf)
                  | (refine CALLQ.mk _ _ _ (leL_refl _) (hNr ..) rfl ?_; conv => whnf)
                split
                · rename_i h
                  exact Bool.noConfusion ((nq).symm.trans h)
                rename_i hN
                clear hN
                conv => whnf
                split
                · rename_i h
                  exact Bool.noConfusion ((ha2).symm.trans h)
                rename_i hN
                clear hN
                conv => whnf
                split
                · rename_i h
                  exact Bool.noConfusion ((ha2).symm.trans h)
                rename_i hN
                clear hN
                conv => whnf
                split
                rotate_left
                · rename_i h
                  exact Bool.noConfusion ((qw).symm.trans h)
                rename_i hN
                clear hN
                conv => whnf
                refine DRAW.seek ?_
                repeat (first | refine TRYD.take ?_ | refine TRYD.next ?_)
                conv => whnf
                split
                rotate_left
                · rename_i h
                  exact Bool.noConfusion ((qw).symm.trans h)
                rename_i hN
                clear hN
                conv => whnf
                split
                rotate_left
                · rename_i h
                  exact Bool.noConfusion ((qz).symm.trans h)
                rename_i hN
                clear hN
                conv => whnf
                split
                · rename_i h
                  exact Bool.noConfusion ((qh).symm.trans h)
                rename_i hN
                clear hN
                conv => whnf
                exact key (Int.tmod (IntKind.i64.wrap (x.w j)) (w64 (m.wind + 1)), b) _ ⟨hwW, .inl rfl⟩ ⟨⟨leV_refl _, leV_refl _, leV_refl _, leV_refl _, leV_refl _, leV_refl _, leV_refl _, leV_refl _, leV_refl _, leV_refl _, leV_refl _, trivial⟩, ⟨leL_refl _, leL_refl _, leL_refl _, leL_refl _, trivial⟩, rfl, rfl⟩
              | true =>
                cases qx : x.h j with
                | true =>
                  have nx : (!x.h j) = false := by rw [qx]; rfl
                  conv => whnf
                  repeat first
                    | (refine DRAW.seek ?_; repeat (first | refine TRYD.take ?_ | refine TRYD.next ?_); conv => whnf)
                    | (refine HOLD.mk (by first | exact trivial | exact ⟨⟨rfl, rfl⟩, trivial⟩ | exact ⟨⟨rfl, rfl⟩, ⟨rfl, rfl⟩, trivial⟩) ?_; (conv => whnf))
                    | (refine CALL0.cutBy lvKeeps _ _ _ _ _ (leL_refl _) (c_machine ..) rfl ?_; conv => whnf)
                    | (refine CALL0.by (c_machine ..) rfl ?_; conv => whnf)
                    | (refine CALLQ.mk _ _ _ (leL_refl _) (c_machine ..) rfl ?_; conv => whnf)
                    | (refine CALL0.cutBy lvKeeps _ _ _ _ _ (leL_refl _) (hNr ..) rfl ?_; conv => whnf)
                    | (refine CALL0.by (hNr ..) rfl ?_; conv => whnf)
                    | (refine CALLQ.mk _ _ _ (leL_refl _) (hNr ..) rfl ?_; conv => whnf)
                  split
                  · rename_i h
                    exact Bool.noConfusion ((nq).symm.trans h)
                  rename_i hN
                  clear hN
                  conv => whnf
                  split
                  · rename_i h
                    exact Bool.noConfusion ((ha2).symm.trans h)
                  rename_i hN
                  clear hN
                  conv => whnf
                  split
                  · rename_i h
                    exact Bool.noConfusion ((ha2).symm.trans h)
                  rename_i hN
                  clear hN
                  conv => whnf
                  split
                  rotate_left
                  · rename_i h
                    exact Bool.noConfusion ((qw).symm.trans h)
                  rename_i hN
                  clear hN
                  conv => whnf
                  refine DRAW.seek ?_
                  repeat (first | refine TRYD.take ?_ | refine TRYD.next ?_)
                  conv => whnf
                  split
                  rotate_left
                  · rename_i h
                    exact Bool.noConfusion ((qw).symm.trans h)
                  rename_i hN
                  clear hN
                  conv => whnf
                  split
                  rotate_left
                  · rename_i h
                    exact Bool.noConfusion ((qz).symm.trans h)
                  rename_i hN
                  clear hN
                  conv => whnf
                  split
                  rotate_left
                  · rename_i h
                    exact Bool.noConfusion ((qh).symm.trans h)
                  rename_i hN
                  clear hN
                  conv => whnf
                  split
                  rotate_left
                  · rename_i h
                    exact Bool.noConfusion ((qh).symm.trans h)
                  rename_i hN
                  clear hN
                  conv => whnf
                  split
                  · rename_i h
                    exact Bool.noConfusion ((nx).symm.trans h)
                  rename_i hN
                  clear hN
                  conv => whnf
                  exact key (Int.tmod (IntKind.i64.wrap (x.w j)) (w64 (m.wind + 1)), b) _ ⟨hwW, .inl rfl⟩ ⟨⟨leV_refl _, leV_refl _, leV_refl _, leV_refl _, leV_refl _, leV_refl _, leV_refl _, leV_refl _, leV_refl _, leV_refl _, leV_refl _, trivial⟩, ⟨leL_refl _, leL_refl _, leL_refl _, leL_refl _, trivial⟩, rfl, rfl⟩
                | false =>
                  have nx : (!x.h j) = true := by rw [qx]; rfl
                  conv => whnf
                  repeat first
                    | (refine DRAW.seek ?_; repeat (first | refine TRYD.take ?_ | refine TRYD.next ?_); conv => whnf)
                    | (refine HOLD.mk (by first | exact trivial | exact ⟨⟨rfl, rfl⟩, trivial⟩ | exact ⟨⟨rfl, rfl⟩, ⟨rfl, rfl⟩, trivial⟩) ?_; (conv => whnf))
                    | (refine CALL0.cutBy lvKeeps _ _ _ _ _ (leL_refl _) (c_machine ..) rfl ?_; conv => whnf)
                    | (refine CALL0.by (c_machine ..) rfl ?_; conv => whnf)
                    | (refine CALLQ.mk _ _ _ (leL_refl _) (c_machine ..) rfl ?_; conv => whnf)
                    | (refine CALL0.cutBy lvKeeps _ _ _ _ _ (leL_refl _) (hNr ..) rfl ?_; conv => whnf)
                    | (refine CALL0.by (hNr ..) rfl ?_; conv => whnf)
                    | (refine CALLQ.mk _ _ _ (leL_refl _) (hNr ..) rfl ?_; conv => whnf)
                  split
                  · rename_i h
                    exact Bool.noConfusion ((nq).symm.trans h)
                  rename_i hN
                  clear hN
                  conv => whnf
                  split
                  · rename_i h
                    exact Bool.noConfusion ((ha2).symm.trans h)
                  rename_i hN
                  clear hN
                  conv => whnf
                  split
                  · rename_i h
                    exact Bool.noConfusion ((ha2).symm.trans h)
                  rename_i hN
                  clear hN
                  conv => whnf
                  split
                  rotate_left
                  · rename_i h
                    exact Bool.noConfusion ((qw).symm.trans h)
                  rename_i hN
                  clear hN
                  conv => whnf
                  refine DRAW.seek ?_
                  repeat (first | refine TRYD.take ?_ | refine TRYD.next ?_)
                  conv => whnf
                  split
                  rotate_left
                  · rename_i h
                    exact Bool.noConfusion ((qw).symm.trans h)
                  rename_i hN
                  clear hN
                  conv => whnf
                  split
                  rotate_left
                  · rename_i h
                    exact Bool.noConfusion ((qz).symm.trans h)
                  rename_i hN
                  clear hN
                  conv => whnf
                  split
                  rotate_left
                  · rename_i h
                    exact Bool.noConfusion ((qh).symm.trans h)
                  rename_i hN
                  clear hN
                  conv => whnf
                  split
                  rotate_left
                  · rename_i h
                    exact Bool.noConfusion ((qh).symm.trans h)
                  rename_i hN
                  clear hN
                  conv => whnf
                  split
                  rotate_left
                  · rename_i h
                    exact Bool.noConfusion ((nx).symm.trans h)
                  rename_i hN
                  clear hN
                  conv => whnf
                  exact key (Int.tmod (IntKind.i64.wrap (x.w j)) (w64 (m.wind + 1)), -1) _ ⟨hwW, .inr rfl⟩ ⟨⟨leV_refl _, leV_refl _, leV_refl _, leV_refl _, leV_refl _, leV_refl _, leV_refl _, leV_refl _, leV_refl _, leV_refl _, leV_refl _, trivial⟩, ⟨leL_refl _, leL_refl _, leL_refl _, leL_refl _, trivial⟩, rfl, rfl⟩
            | false =>
              cases qh : decide ((j : Int) < x.nh) with
              | false =>
                conv => whnf
                repeat first
                  | (refine DRAW.seek ?_; repeat (first | refine TRYD.take ?_ | refine TRYD.next ?_); conv => whnf)
                  | (refine HOLD.mk (by first | exact trivial | exact ⟨⟨rfl, rfl⟩, trivial⟩ | exact ⟨⟨rfl, rfl⟩, ⟨rfl, rfl⟩, trivial⟩) ?_; (conv => whnf))
                  | (refine CALL0.cutBy lvKeeps _ _ _ _ _ (leL_refl _) (c_machine ..) rfl ?_; conv => whnf)
                  | (refine CALL0.by (c_machine ..) rfl ?_; conv => whnf)
                  | (refine CALLQ.mk _ _ _ (leL_refl _) (c_machine ..) rfl ?_; conv => whnf)
                  | (refine CALL0.cutBy lvKeeps _ _ _ _ _ (leL_refl _) (hNr ..) rfl ?_; conv => whnf)
                  | (refine CALL0.by (hNr ..) rfl ?_; conv => whnf)
                  | (refine CALLQ.mk _ _ _ (leL_refl _) (hNr ..) rfl ?_; conv => whnf)
                split
                · rename_i h
                  exact Bool.noConfusion ((nq).symm.trans h)
                rename_i hN
                clear hN
                conv => whnf
                split
                · rename_i h
                  exact Bool.noConfusion ((ha2).symm.trans h)
                rename_i hN
                clear hN
                conv => whnf
                split
                · rename_i h
                  exact Bool.noConfusion ((ha2).symm.trans h)
                rename_i hN
                clear hN
                conv => whnf
                split
                · rename_i h
                  exact Bool.noConfusion ((qw).symm.trans h)
                rename_i hN
                clear hN
                conv => whnf
                split
                · rename_i h
                  exact Bool.noConfusion ((qh).symm.trans h)
                rename_i hN
                clear hN
                conv => whnf
                exact key (m.wind, b) _ ⟨⟨by omega, Int.le_refl _⟩, .inl rfl⟩ ⟨⟨leV_refl _, leV_refl _, leV_refl _, leV_refl _, leV_refl _, leV_refl _, leV_refl _, leV_refl _, leV_refl _, leV_refl _, leV_refl _, trivial⟩, ⟨leL_refl _, leL_refl _, leL_refl _, leL_refl _, trivial⟩, rfl, rfl⟩
              | true =>
                cases qx : x.h j with
                | true =>
                  have nx : (!x.h j) = false := by rw [qx]; rfl
                  conv => whnf
                  repeat first
                    | (refine DRAW.seek ?_; repeat (first | refine TRYD.take ?_ | refine TRYD.next ?_); conv => whnf)
                    | (refine HOLD.mk (by first | exact trivial | exact ⟨⟨rfl, rfl⟩, trivial⟩ | exact ⟨⟨rfl, rfl⟩, ⟨rfl, rfl⟩, trivial⟩) ?_; (conv => whnf))
                    | (refine CALL0.cutBy lvKeeps _ _ _ _ _ (leL_refl _) (c_machine ..) rfl ?_; conv => whnf)
                    | (refine CALL0.by (c_machine ..) rfl ?_; conv => whnf)
                    | (refine CALLQ.mk _ _ _ (leL_refl _) (c_machine ..) rfl ?_; conv => whnf)
                    | (refine CALL0.cutBy lvKeeps _ _ _ _ _ (leL_refl _) (hNr ..) rfl ?_; conv => whnf)
                    | (refine CALL0.by (hNr ..) rfl ?_; conv => whnf)
                    | (refine CALLQ.mk _ _ _ (leL_refl _) (hNr ..) rfl ?_; conv => whnf)
                  split
                  · rename_i h
                    exact Bool.noConfusion ((nq).symm.trans h)
                  rename_i hN
                  clear hN
                  conv => whnf
                  split
                  · rename_i h
                    exact Bool.noConfusion ((ha2).symm.trans h)
                  rename_i hN
                  clear hN
                  conv => whnf
                  split
                  · rename_i h
                    exact Bool.noConfusion ((ha2).symm.trans h)
                  rename_i hN
                  clear hN
                  conv => whnf
                  split
                  · rename_i h
                    exact Bool.noConfusion ((qw).symm.trans h)
                  rename_i hN
                  clear hN
                  conv => whnf
                  split
                  rotate_left
                  · rename_i h
                    exact Bool.noConfusion ((qh).symm.trans h)
                  rename_i hN
                  clear hN
                  conv => whnf
                  split
                  rotate_left
                  · rename_i h
                    exact Bool.noConfusion ((qh).symm.trans h)
                  rename_i hN
                  clear hN
                  conv => whnf
                  split
                  · rename_i h
                    exact Bool.noConfusion ((nx).symm.trans h)
                  rename_i hN
                  clear hN
                  conv => whnf
                  exact key (m.wind, b) _ ⟨⟨by omega, Int.le_refl _⟩, .inl rfl⟩ ⟨⟨leV_refl _, leV_refl _, leV_refl _, leV_refl _, leV_refl _, leV_refl _, leV_refl _, leV_refl _, leV_refl _, leV_refl _, leV_refl _, trivial⟩, ⟨leL_refl _, leL_refl _, leL_refl _, leL_refl _, trivial⟩, rfl, rfl⟩
                | false =>
                  have nx : (!x.h j) = true := by rw [qx]; rfl
                  conv => whnf
                  repeat first
                    | (refine DRAW.seek ?_; repeat (first | refine TRYD.take ?_ | refine TRYD.next ?_); conv => whnf)
                    | (refine HOLD.mk (by first | exact trivial | exact ⟨⟨rfl, rfl⟩, trivial⟩ | exact ⟨⟨rfl, rfl⟩, ⟨rfl, rfl⟩, trivial⟩) ?_; (conv => whnf))
                    | (refine CALL0.cutBy lvKeeps _ _ _ _ _ (leL_refl _) (c_machine ..) rfl ?_; conv => whnf)
                    | (refine CALL0.by (c_machine ..) rfl ?_; conv => whnf)
                    | (refine CALLQ.mk _ _ _ (leL_refl _) (c_machine ..) rfl ?_; conv => whnf)
                    | (refine CALL0.cutBy lvKeeps _ _ _ _ _ (leL_refl _) (hNr ..) rfl ?_; conv => whnf)
                    | (refine CALL0.by (hNr ..) rfl ?_; conv => whnf)
                    | (refine CALLQ.mk _ _ _ (leL_refl _) (hNr ..) rfl ?_; conv => whnf)
                  split
                  · rename_i h
                    exact Bool.noConfusion ((nq).symm.trans h)
                  rename_i hN
                  clear hN
                  conv => whnf
                  split
                  · rename_i h
                    exact Bool.noConfusion ((ha2).symm.trans h)
                  rename_i hN
                  clear hN
                  conv => whnf
                  split
                  · rename_i h
                    exact Bool.noConfusion ((ha2).symm.trans h)
                  rename_i hN
                  clear hN
                  conv => whnf
                  split
                  · rename_i h
                    exact Bool.noConfusion ((qw).symm.trans h)
                  rename_i hN
                  clear hN
                  conv => whnf
                  split
                  rotate_left
                  · rename_i h
                    exact Bool.noConfusion ((qh).symm.trans h)
                  rename_i hN
                  clear hN
                  conv => whnf
                  split
                  rotate_left
                  · rename_i h
                    exact Bool.noConfusion ((qh).symm.trans h)
                  rename_i hN
                  clear hN
                  conv => whnf
                  split
                  rotate_left
                  · rename_i h
                    exact Bool.noConfusion ((nx).symm.trans h)
                  rename_i hN
                  clear hN
                  conv => whnf
                  exact key (m.wind, -1) _ ⟨⟨by omega, Int.le_refl _⟩, .inr rfl⟩ ⟨⟨leV_refl _, leV_refl _, leV_refl _, leV_refl _, leV_refl _, leV_refl _, leV_refl _, leV_refl _, leV_refl _, leV_refl _, leV_refl _, trivial⟩, ⟨leL_refl _, leL_refl _, leL_refl _, leL_refl _, trivial⟩, rfl, rfl⟩
        case key =>
          rintro ⟨W, K⟩ ⟨⟨hW0, hW1⟩, hKb⟩
          have hB' := brake_step hm trng tlim hb1.1 hb1.2 hbpk hB (w := W) (k := K) ⟨hW0, hW1⟩ hKb
          obtain ⟨z1, z2, z3, z4⟩ := keeps_eq hm rng (by omega) (w := W) (k := K) (by omega)
          obtain ⟨al2, bh2⟩ := brake_allowed (m := m) hB.mode hKb hB.stuck hB'.lim
          have hNb := fun up => c_NextOk (gl := gl) up hk m s ⟨sBrake, W, 0, 0, K⟩ herr (brake_act hm ⟨hW0, hW1⟩ (by rcases hKb with h | h <;> omega))
          rw [al2, bh2] at hNb
          obtain ⟨y, hy⟩ : ∃ y, y = s.brakedW m W K := ⟨_, rfl⟩
          rw [← hy] at hNb hB' z1 z2 z3 z4
          have hNb : ∀ up, Cs gl n_control_Next up [m.iv, s.iv, .agg [.str sBrake, .int .i64 W, .int .i64 0, .int .i64 0, .int .i64 K]] (.tup [y.iv, .int .i64 0]) up := hNb
          refine ⟨{k : Nat // k ≤ 3}, fun k => ⟨[(205, .int .i64 (k.1 : Int)), (22, .int .i64 K), (21, .int .i64 W), (13, .int .i64 (spdK s m W K k.1)), (128, .int .i64 (j : Int)), (127, .int .i64 (w64 (w64 (m.fea + m.lim) + 1))), (11, .int .i64 b), (12, .ptr 0 12 0), (7, .ptr 0 7 0), (5, .ptr 0 5 0), (3, .ptr 0 3 0)], [(12, celK s m K k.1), (7, s.cs), (5, x.cs), (3, m.cs)], up⟩, fun k => 3 - k.1, ⟨0, Nat.zero_le _⟩, rfl, ?_⟩
          rintro ⟨k, hk3⟩
          obtain rfl | rfl | rfl | rfl : k = 0 ∨ k = 1 ∨ k = 2 ∨ k = 3 := by omega
          · cases q : ((0 : Int) != K) with
            | true =>
              have e : pitK s m K 0 = minW m.fea (w64 (s.p0 + m.rate)) := by unfold pitK; rw [show (((0 : Nat) : Int) != K) = true from q]; rfl
              conv => whnf
              split
              rotate_left
              · rename_i h
                exact Bool.noConfusion ((q).symm.trans h)
              rename_i hN
              clear hN
              conv => whnf
              refine DRAW.seek ?_
              repeat (first | refine TRYD.take ?_ | refine TRYD.next ?_)
              conv => whnf
              refine ⟨⟨1, by omega⟩, ⟨⟨leV_refl _, leV_refl _, leV_refl _, leV_int (by show w64 (spdK s m W K 0 - minW m.fea (w64 (s.p0 + m.rate))) = w64 (spdK s m W K 0 - pitK s m K 0); rw [e]), leV_refl _, leV_refl _, leV_refl _, leV_refl _, leV_refl _, leV_refl _, leV_refl _, trivial⟩, ⟨?_, leL_refl _, leL_refl _, leL_refl _, trivial⟩, rfl, rfl⟩, by simp⟩
              exact leL3 (leV_int e.symm) (leV_refl (.int .i64 s.p1)) (leV_refl (.int .i64 s.p2))
            | false =>
              have e : pitK s m K 0 = s.p0 := by unfold pitK; rw [show (((0 : Nat) : Int) != K) = false from q]; rfl
              conv => whnf
              split
              · rename_i h
                exact Bool.noConfusion ((q).symm.trans h)
              rename_i hN
              clear hN
              conv => whnf
              refine ⟨⟨1, by omega⟩, ⟨⟨leV_refl _, leV_refl _, leV_refl _, leV_int (by show w64 (spdK s m W K 0 - s.p0) = w64 (spdK s m W K 0 - pitK s m K 0); rw [e]), leV_refl _, leV_refl _, leV_refl _, leV_refl _, leV_refl _, leV_refl _, leV_refl _, trivial⟩, ⟨?_, leL_refl _, leL_refl _, leL_refl _, trivial⟩, rfl, rfl⟩, by simp⟩
              exact leL3 (leV_int e.symm) (leV_refl (.int .i64 s.p1)) (leV_refl (.int .i64 s.p2))
          · cases q : ((1 : Int) != K) with
            | true =>
              have e : pitK s m K 1 = minW m.fea (w64 (s.p1 + m.rate)) := by unfold pitK; rw [show (((1 : Nat) : Int) != K) = true from q]; rfl
              conv => whnf
              split
              rotate_left
              · rename_i h
                exact Bool.noConfusion ((q).symm.trans h)
              rename_i hN
              clear hN
              conv => whnf
              refine DRAW.seek ?_
              repeat (first | refine TRYD.take ?_ | refine TRYD.next ?_)
              conv => whnf
              refine ⟨⟨2, by omega⟩, ⟨⟨leV_refl _, leV_refl _, leV_refl _, leV_int (by show w64 (spdK s m W K 1 - minW m.fea (w64 (s.p1 + m.rate))) = w64 (spdK s m W K 1 - pitK s m K 1); rw [e]), leV_refl _, leV_refl _, leV_refl _, leV_refl _, leV_refl _, leV_refl _, leV_refl _, trivial⟩, ⟨?_, leL_refl _, leL_refl _, leL_refl _, trivial⟩, rfl, rfl⟩, by simp⟩
              exact leL3 (leV_refl (.int .i64 (pitK s m K 0))) (leV_int e.symm) (leV_refl (.int .i64 s.p2))
            | false =>
              have e : pitK s m K 1 = s.p1 := by unfold pitK; rw [show (((1 : Nat) : Int) != K) = false from q]; rfl
              conv => whnf
              split
              · rename_i h
                exact Bool.noConfusion ((q).symm.trans h)
              rename_i hN
              clear hN
              conv => whnf
              refine ⟨⟨2, by omega⟩, ⟨⟨leV_refl _, leV_refl _, leV_refl _, leV_int (by show w64 (spdK s m W K 1 - s.p1) = w64 (spdK s m W K 1 - pitK s m K 1); rw [e]), leV_refl _, leV_refl _, leV_refl _, leV_refl _, leV_refl _, leV_refl _, leV_refl _, trivial⟩, ⟨?_, leL_refl _, leL_refl _, leL_refl _, trivial⟩, rfl, rfl⟩, by simp⟩
              exact leL3 (leV_refl (.int .i64 (pitK s m K 0))) (leV_int e.symm) (leV_refl (.int .i64 s.p2))
          · cases q : ((2 : Int) != K) with
            | true =>
              have e : pitK s m K 2 = minW m.fea (w64 (s.p2 + m.rate)) := by unfold pitK; rw [show (((2 : Nat) : Int) != K) = true from q]; rfl
              conv => whnf
              split
              rotate_left
              · rename_i h
                exact Bool.noConfusion ((q).symm.trans h)
              rename_i hN
              clear hN
              conv => whnf
              refine DRAW.seek ?_
              repeat (first | refine TRYD.take ?_ | refine TRYD.next ?_)
              conv => whnf
              refine ⟨⟨3, by omega⟩, ⟨⟨leV_refl _, leV_refl _, leV_refl _, leV_int (by show w64 (spdK s m W K 2 - minW m.fea (w64 (s.p2 + m.rate))) = w64 (spdK s m W K 2 - pitK s m K 2); rw [e]), leV_refl _, leV_refl _, leV_refl _, leV_refl _, leV_refl _, leV_refl _, leV_refl _, trivial⟩, ⟨?_, leL_refl _, leL_refl _, leL_refl _, trivial⟩, rfl, rfl⟩, by simp⟩
              exact leL3 (leV_refl (.int .i64 (pitK s m K 0))) (leV_refl (.int .i64 (pitK s m K 1))) (leV_int e.symm)
            | false =>
              have e : pitK s m K 2 = s.p2 := by unfold pitK; rw [show (((2 : Nat) : Int) != K) = false from q]; rfl
              conv => whnf
              split
              · rename_i h
                exact Bool.noConfusion ((q).symm.trans h)
              rename_i hN
              clear hN
              conv => whnf
              refine ⟨⟨3, by omega⟩, ⟨⟨leV_refl _, leV_refl _, leV_refl _, leV_int (by show w64 (spdK s m W K 2 - s.p2) = w64 (spdK s m W K 2 - pitK s m K 2); rw [e]), leV_refl _, leV_refl _, leV_refl _, leV_refl _, leV_refl _, leV_refl _, leV_refl _, trivial⟩, ⟨?_, leL_refl _, leL_refl _, leL_refl _, trivial⟩, rfl, rfl⟩, by simp⟩
              exact leL3 (leV_refl (.int .i64 (pitK s m K 0))) (leV_refl (.int .i64 (pitK s m K 1))) (leV_int e.symm)
          · have ysp : decide (maxW 0 (spdK s m W K 3) > m.lim) = false := by rw [← z1]; exact decide_eq_false (by have := hB'.lim; omega)
            have yeq : (y.speed != maxW 0 (spdK s m W K 3)) = false := by rw [z1]; simp
            have yps : (!(y.p0 == pitK s m K 0 && (y.p1 == pitK s m K 1 && (y.p2 == pitK s m K 2 && true)))) = false := by rw [z2, z3, z4]; simp
            have ym : (!eqS y.mode sStop) = false := by rw [hB'.mode, eq_self]; rfl
            conv => whnf
            repeat first
              | (refine DRAW.seek ?_; repeat (first | refine TRYD.take ?_ | refine TRYD.next ?_); conv => whnf)
              | (refine HOLD.mk (by first | exact trivial | exact ⟨⟨rfl, rfl⟩, trivial⟩ | exact ⟨⟨rfl, rfl⟩, ⟨rfl, rfl⟩, trivial⟩) ?_; (conv => whnf))
              | (refine CALL0.cutBy lvKeeps _ _ _ _ _ (leL_refl _) (c_machine ..) rfl ?_; conv => whnf)
              | (refine CALL0.by (c_machine ..) rfl ?_; conv => whnf)
              | (refine CALLQ.mk _ _ _ (leL_refl _) (c_machine ..) rfl ?_; conv => whnf)
              | (refine CALL0.cutBy lvKeeps _ _ _ _ _ (leL_refl _) (hNb ..) rfl ?_; conv => whnf)
              | (refine CALL0.by (hNb ..) rfl ?_; conv => whnf)
              | (refine CALLQ.mk _ _ _ (leL_refl _) (hNb ..) rfl ?_; conv => whnf)
            split
            · rename_i h
              exact Bool.noConfusion ((ysp).symm.trans h)
            rename_i hN
            clear hN
            conv => whnf
            split
            · rename_i h
              exact Bool.noConfusion ((yeq).symm.trans h)
            rename_i hN
            clear hN
            conv => whnf
            split
            · rename_i h
              exact Bool.noConfusion ((yps).symm.trans h)
            rename_i hN
            clear hN
            conv => whnf
            split
            · rename_i h
              exact Bool.noConfusion ((ym).symm.trans h)
            rename_i hN
            clear hN
            conv => whnf
            repeat first
              | (refine DRAW.seek ?_; repeat (first | refine TRYD.take ?_ | refine TRYD.next ?_); conv => whnf)
              | (refine HOLD.mk (by first | exact trivial | exact ⟨⟨rfl, rfl⟩, trivial⟩ | exact ⟨⟨rfl, rfl⟩, ⟨rfl, rfl⟩, trivial⟩) ?_; (conv => whnf))
            exact ⟨⟨(j + 1, y), by show ((j + 1 : Nat) : Int) ≤ _; omega, hB'⟩, ⟨⟨leV_int hwj, leV_refl _, leV_refl _, leV_int z1.symm, leV_refl _, leV_refl _, leV_refl _, leV_refl _, trivial⟩, ⟨⟨leV_int z2.symm, leV_int z3.symm, leV_int z4.symm, trivial⟩, leL_refl _, leL_refl _, leL_refl _, trivial⟩, rfl, rfl⟩, by show (m.fea + m.lim).toNat - (j + 1) < (m.fea + m.lim).toNat - j; omega⟩
end Go.Proofs.YtkdlegfakefjgaaGreatDoor.Ix

/-
  Ks9: ControlKeeps: all cases; what fits a storm's shape.
-/
namespace Go.Proofs.YtkdlegfakefjgaaGreatDoor.Ix
open Go.Proofs
set_option maxRecDepth 100000
set_option linter.unusedVariables false
set_option linter.unusedSimpArgs false
variable {gl : Nat → IV}

theorem c_ControlKeeps (up : List Ces) (hk : gl g_control_kinds = kindsI) (hg : gl g_internal_strconv_uint64pow10 = powI) (m : Mc) (n : Nat) (hn : n ≤ 9223372036854775807) (l : Nat → Ac) (x : Storm) (hxw : ∀ i, i < x.nw → 0 ≤ x.w i ∧ x.w i < 256) (hxb : 0 ≤ x.b ∧ x.b < 256) :
    Cs gl n_nacellelaw05_ControlKeeps up [m.iv, .lst none 5 n fun i => (l i).cs, x.iv] (.bool true) up := by
  cases hs : m.smallB with
  | false => exact keeps_no up hk hg m n hn l x (.inl hs)
  | true =>
  cases q1 : decide ((n : Int) > 24) with
  | true => exact keeps_no up hk hg m n hn l x (.inr (.inl q1))
  | false =>
  cases hsh : shortA n l 24 with
  | false => exact keeps_no up hk hg m n hn l x (.inr (.inr (.inl hsh)))
  | true =>
  cases q3 : (histE m n l != 0) with
  | true => exact keeps_no up hk hg m n hn l x (.inr (.inr (.inr (.inl q3))))
  | false =>
  cases q4 : decide ((x.nw : Int) > 200) with
  | true => exact keeps_no up hk hg m n hn l x (.inr (.inr (.inr (.inr (.inl q4)))))
  | false =>
  cases q5 : decide ((x.nh : Int) > 200) with
  | true => exact keeps_no up hk hg m n hn l x (.inr (.inr (.inr (.inr (.inr q5)))))
  | false =>
  have hn2 := of_decide_eq_false q1
  have hH : Hist m n l := by
    have h : histE m n l = 0 := by simpa using q3
    unfold histE at h
    cases e : (m.err != 0) with
    | true =>
      rw [e] at h
      simp only [cond_true] at h
      rw [h] at e; exact absurd e (by decide)
    | false =>
      rw [e, show decide ((n : Int) > 1024) = false from decide_eq_false (by omega)] at h
      simp only [cond_false] at h
      exact ⟨Mc.err_ok (by simpa using e), by omega, h⟩
  exact keeps_yes up hk hg m n l x hs q1 hsh hH q4 q5 hxw hxb

def boolAt (xs : List IV) : Bool := match xs with
  | .bool b :: _ => b
  | _ => false

theorem fit_storm {v : IV} (h : FitV (.agg [(1, .slice 1 (.int .u8)), (1, .slice 1 .bool), (1, .int .u8)]) v) : ∃ x : Storm, leV v x.iv ∧ (∀ i, i < x.nw → 0 ≤ x.w i ∧ x.w i < 256) ∧ (0 ≤ x.b ∧ x.b < 256) := by
  have u8 : ∀ z : Int, (Lit.int .u8 z).wf = true → 0 ≤ z ∧ z < 256 := fun z hw => by
    simp [Lit.wf, IntKind.min, IntKind.max, IntKind.signed, IntKind.bits] at hw
    omega
  obtain ⟨xs, rfl, h⟩ := h
  simp only [FitL] at h
  obtain ⟨y1, z1, rfl, _, h1, y2, z2, rfl, _, h2, y3, z3, rfl, _, h3, rfl⟩ := h
  obtain ⟨n, f, rfl, _, hf⟩ := h1
  obtain ⟨k, g, rfl, _, hg⟩ := h2
  obtain ⟨b, rfl, hb⟩ := h3
  refine ⟨⟨n, k, fun i => intAt (f i) 0, fun i => boolAt (g i), b⟩, ?_, fun i hi => ?_, u8 b hb⟩
  · show leL [_, _, _] [_, _, _]
    refine ⟨⟨.inl rfl, rfl, rfl, fun i hi => ?_⟩, ⟨.inl rfl, rfl, rfl, fun i hi => ?_⟩, leV_refl _, trivial⟩
    · obtain ⟨_, z, hz, _⟩ := hf i hi
      show f i = [.int .u8 (intAt (f i) 0)]
      rw [hz]; rfl
    · obtain ⟨_, z, hz⟩ := hg i hi
      show g i = [.bool (boolAt (g i))]
      rw [hz]; rfl
  · obtain ⟨_, z, hz, hw⟩ := hf i hi
    show 0 ≤ intAt (f i) 0 ∧ intAt (f i) 0 < 256
    rw [hz]; exact u8 z hw
end Go.Proofs.YtkdlegfakefjgaaGreatDoor.Ix
