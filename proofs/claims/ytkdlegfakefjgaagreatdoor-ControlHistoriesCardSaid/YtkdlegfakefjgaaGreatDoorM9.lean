/-
  Cr6: contracts of the reference's functions for histories.
-/
import Derived.Test.YtkdlegfakefjgaaGreatDoorM8
namespace Go.Proofs.YtkdlegfakefjgaaGreatDoor.Ix
open Go.Proofs
set_option maxRecDepth 100000
set_option linter.unusedVariables false
set_option linter.unusedSimpArgs false
variable {gl : Nat → IV}

def shortA (n : Nat) (l : Nat → Ac) (k : Nat) : Bool := bif decide ((n : Int) > k) then (n : Int) == 1025 else allB (fun i => !decide (((l i).kind.size : Int) > 40)) n 0

theorem c_rShort (up : List Ces) (n : Nat) (hn : n ≤ 9223372036854775807) (l : Nat → Ac) (k : Nat) : Cs gl n_nacelleref05_ShortActs up [.lst none 5 n fun i => (l i).cs, .int .i64 k] (.bool (shortA n l k)) up := by
  refine mk h_nacelleref05_ShortActs rfl rfl ?_
  unfold shortA
  cases q0 : decide ((n : Int) > k) with
  | true =>
    conv => whnf
    split
    rotate_left
    · rename_i h
      exact Bool.noConfusion ((q0).symm.trans h)
    rename_i hN
    clear hN
    conv => whnf
    exact ⟨rfl, rfl⟩
  | false =>
    let p : Nat → Bool := fun i => !decide (((l i).kind.size : Int) > 40)
    conv => whnf
    split
    · rename_i h
      exact Bool.noConfusion ((q0).symm.trans h)
    rename_i hN
    clear hN
    conv => whnf
    refine .mk (α := {i : Nat // i ≤ n ∧ allB p n 0 = allB p (n - i) i}) (fun i => ⟨[(5, .int .i64 i.1), (0, .lst none 5 n fun i => (l i).cs)], [], up⟩) (fun i => n - i.1) ⟨0, Nat.zero_le _, rfl⟩ ⟨⟨leV_refl _, leV_refl _, trivial⟩, trivial, rfl, rfl⟩ ?_
    rintro ⟨i, hi, he⟩
    by_cases hlt : i < n
    · have hw : w64 ((i : Int) + 1) = ((i + 1 : Nat) : Int) := by rw [w64, wrap_in] <;> omega
      have q : decide ((i : Int) < (n : Int)) = true := decide_eq_true (by omega)
      rw [allB_step hlt] at he
      cases qe : decide (((l i).kind.size : Int) > 40) with
      | true =>
        have hp : p i = false := by show (!decide _) = false; rw [qe]; rfl
        rw [hp, Bool.false_and] at he
        conv => whnf
        split
        rotate_left
        · rename_i h
          exact Bool.noConfusion ((q).symm.trans h)
        rename_i hN
        clear hN
        conv => whnf
        split
        rotate_left
        · rename_i h
          exact Bool.noConfusion ((q).symm.trans h)
        rename_i hN
        clear hN
        conv => whnf
        split
        rotate_left
        · rename_i h
          exact Bool.noConfusion ((qe).symm.trans h)
        rename_i hN
        clear hN
        conv => whnf
        exact ⟨congrArg IV.bool he.symm, rfl⟩
      | false =>
        have hp : p i = true := by show (!decide _) = true; rw [qe]; rfl
        rw [hp, Bool.true_and] at he
        conv => whnf
        split
        rotate_left
        · rename_i h
          exact Bool.noConfusion ((q).symm.trans h)
        rename_i hN
        clear hN
        conv => whnf
        split
        rotate_left
        · rename_i h
          exact Bool.noConfusion ((q).symm.trans h)
        rename_i hN
        clear hN
        conv => whnf
        split
        · rename_i h
          exact Bool.noConfusion ((qe).symm.trans h)
        rename_i hN
        clear hN
        conv => whnf
        exact ⟨⟨i + 1, hlt, he⟩, ⟨⟨leV_int hw, leV_refl _, trivial⟩, trivial, rfl, rfl⟩, (by show n - (i + 1) < n - i; omega)⟩
    · have q : decide ((i : Int) < (n : Int)) = false := decide_eq_false (by omega)
      have : i = n := by omega
      subst this
      rw [Nat.sub_self] at he
      conv => whnf
      split
      · rename_i h
        exact Bool.noConfusion ((q).symm.trans h)
      rename_i hN
      clear hN
      conv => whnf
      exact ⟨congrArg IV.bool he.symm, rfl⟩

theorem short_le {n : Nat} {l : Nat → Ac} (h : shortA n l 24 = true) : n ≤ 24 ∨ n = 1025 := by
  unfold shortA at h
  cases q : decide ((n : Int) > (24 : Nat)) with
  | false => have := of_decide_eq_false q; omega
  | true =>
    rw [q, cond_true] at h
    have : (n : Int) = 1025 := by simpa using h
    omega

def tgT : Nat → Nat
  | 0 => 17
  | _ + 1 => 56
noncomputable def statesR (m : Mc) (n : Nat) (l : Nat → Ac) : IV :=
  bif decide ((n : Int) > 1024) then .tup [.nilS, .int .i64 0, .int .i64 5] else
  bif (repE m l n 0).2 != 0 then .tup [.nilS, .int .i64 (repE m l n 0).1, .int .i64 (repE m l n 0).2] else
  .tup [.lst (some (tgT n)) 7 (1 + n) fun i => (repS m l i).cs, .int .i64 0, .int .i64 0]


set_option maxHeartbeats 16000000 in
theorem c_rStates (up : List Ces) (m : Mc) (n : Nat) (hn : n ≤ 10000000) (l : Nat → Ac) (hm : m.ok) :
    Cs gl n_nacelleref05_States up [m.iv, .lst none 5 n fun i => (l i).cs] (statesR m n l) up := by
  refine mk h_nacelleref05_States rfl rfl ?_
  unfold statesR
  have hA := fun up k => c_rAct (gl := gl) up m (l k)
  cases q0 : decide ((n : Int) > 1024) with
  | true =>
    conv => whnf
    split
    rotate_left
    · rename_i h
      exact Bool.noConfusion ((q0).symm.trans h)
    rename_i hN
    clear hN
    conv => whnf
    exact ⟨rfl, rfl⟩
  | false =>
  rw [cond_false]
  generalize hR : repE m l n 0 = R
  conv => whnf
  split
  · rename_i h
    exact Bool.noConfusion ((q0).symm.trans h)
  rename_i hN
  clear hN
  conv => whnf
  repeat first
    | (refine DRAW.seek ?_; repeat (first | refine TRYD.take ?_ | refine TRYD.next ?_); conv => whnf)
    | (refine HOLD.mk (by first | exact trivial | exact ⟨⟨rfl, rfl⟩, trivial⟩ | exact ⟨⟨rfl, rfl⟩, ⟨rfl, rfl⟩, trivial⟩) ?_; (conv => whnf))
    | (refine CALL0.by (c_rBegin ..) rfl ?_; conv => whnf)
    | (refine CALLQ.mk _ _ _ (leL_refl _) (c_rBegin ..) rfl ?_; conv => whnf)
  let F : Nat → List IV := fun i => (repS m l i).cs
  refine .mk (α := {i : Nat // i ≤ n ∧ repE m l (n - i) i = R ∧ (repS m l i).inv m}) (fun i => ⟨[(8, .int .i64 i.1), (7, .lst (some (tgT i.1)) 7 (1 + i.1) F), (1, .lst none 5 n fun i => (l i).cs), (2, .ptr 0 2 0)],
    [(2, m.cs)], up⟩) (fun i => n - i.1) ⟨0, Nat.zero_le _, hR, begin_inv hm⟩ ⟨?_, ?_, rfl, rfl⟩ ?_
  · refine ⟨leV_refl _, ⟨.inr rfl, rfl, rfl, fun j hj => ?_⟩, leV_refl _, leV_refl _, trivial⟩
    obtain rfl : j = 0 := by omega
    rfl
  · exact ⟨leL_refl _, trivial⟩
  rintro ⟨i, hi, he, hs⟩
  have hw : w64 ((i : Int) + 1) = ((i + 1 : Nat) : Int) := by rw [w64, wrap_in] <;> omega
  by_cases hlt : i < n
  · have q : decide ((i : Int) < n) = true := decide_eq_true (by omega)
    have qj : decide ((i : Int) < ((1 + i : Nat) : Int)) = true := decide_eq_true (by omega)
    have hA := fun up => hA up i
    have hstep : repE m l (n - i) i = bif stepE m l i != 0 then (((i + 1 : Nat) : Int), stepE m l i) else repE m l (n - (i + 1)) (i + 1) := by
      rw [show n - i = (n - (i + 1)) + 1 by omega]; rfl
    by_cases h1 : (l i).err m = 0
    rotate_left
    · have q2 : ((l i).err m != 0) = true := by simpa using h1
      have hse : stepE m l i = (l i).err m := by unfold stepE; rw [show ((l i).err m == 0) = false by simpa using h1]; rfl
      rw [hse, q2, cond_true] at hstep
      have hR1 := hstep.symm.trans he
      have hRa : R.1 = ((i + 1 : Nat) : Int) := by rw [← hR1]
      have hRb : R.2 = (l i).err m := by rw [← hR1]
      have q3 : (R.2 != 0) = true := by rw [hRb]; exact q2
      rw [q3, hRa, hRb]
      cases i with
      | zero =>
        conv => whnf
        split
        rotate_left
        · rename_i h
          exact Bool.noConfusion ((q).symm.trans h)
        rename_i hN
        clear hN
        conv => whnf
        refine DRAW.seek ?_
        repeat (first | refine TRYD.take ?_ | refine TRYD.next ?_)
        conv => whnf
        split
        rotate_left
        · rename_i h
          exact Bool.noConfusion ((q).symm.trans h)
        rename_i hN
        clear hN
        conv => whnf
        repeat first
          | (refine DRAW.seek ?_; repeat (first | refine TRYD.take ?_ | refine TRYD.next ?_); conv => whnf)
          | (refine HOLD.mk (by first | exact trivial | exact ⟨⟨rfl, rfl⟩, trivial⟩ | exact ⟨⟨rfl, rfl⟩, ⟨rfl, rfl⟩, trivial⟩) ?_; (conv => whnf))
          | (refine CALL0.by (hA ..) rfl ?_; conv => whnf)
          | (refine CALLQ.mk _ _ _ (leL_refl _) (hA ..) rfl ?_; conv => whnf)
        split
        rotate_left
        · rename_i h
          exact Bool.noConfusion ((q2).symm.trans h)
        rename_i hN
        clear hN
        conv => whnf
        exact ⟨congrArg (fun x => IV.tup [.nilS, .int .i64 x, .int .i64 _]) hw, rfl⟩
      | succ i =>
        conv => whnf
        split
        rotate_left
        · rename_i h
          exact Bool.noConfusion ((q).symm.trans h)
        rename_i hN
        clear hN
        conv => whnf
        refine DRAW.seek ?_
        repeat (first | refine TRYD.take ?_ | refine TRYD.next ?_)
        conv => whnf
        split
        rotate_left
        · rename_i h
          exact Bool.noConfusion ((q).symm.trans h)
        rename_i hN
        clear hN
        conv => whnf
        repeat first
          | (refine DRAW.seek ?_; repeat (first | refine TRYD.take ?_ | refine TRYD.next ?_); conv => whnf)
          | (refine HOLD.mk (by first | exact trivial | exact ⟨⟨rfl, rfl⟩, trivial⟩ | exact ⟨⟨rfl, rfl⟩, ⟨rfl, rfl⟩, trivial⟩) ?_; (conv => whnf))
          | (refine CALL0.by (hA ..) rfl ?_; conv => whnf)
          | (refine CALLQ.mk _ _ _ (leL_refl _) (hA ..) rfl ?_; conv => whnf)
        split
        rotate_left
        · rename_i h
          exact Bool.noConfusion ((q2).symm.trans h)
        rename_i hN
        clear hN
        conv => whnf
        exact ⟨congrArg (fun x => IV.tup [.nilS, .int .i64 x, .int .i64 _]) hw, rfl⟩
    · obtain ⟨_, ha, _, _⟩ := Ac.err_ok h1
      have hne := kind_nonempty h1
      rw [h1] at hA
      have hN := fun up => c_rNext (gl := gl) up m (repS m l i) (l i) hm hs.rng ha hne
      cases q2 : ((repS m l i).allowedN m (l i) != 0) with
      | true =>
        rw [q2] at hN
        simp only [cond_true] at hN
        have hse : stepE m l i = 19 := by unfold stepE; rw [h1, q2]; rfl
        rw [hse] at hstep
        have hR1 := hstep.symm.trans he
        have hRa : R.1 = ((i + 1 : Nat) : Int) := by rw [← hR1]; rfl
        have hRb : R.2 = 19 := by rw [← hR1]; rfl
        have q3 : (R.2 != 0) = true := by rw [hRb]; rfl
        rw [q3, hRa, hRb]
        cases i with
        | zero =>
          conv => whnf
          split
          rotate_left
          · rename_i h
            exact Bool.noConfusion ((q).symm.trans h)
          rename_i hN
          clear hN
          conv => whnf
          refine DRAW.seek ?_
          repeat (first | refine TRYD.take ?_ | refine TRYD.next ?_)
          conv => whnf
          split
          rotate_left
          · rename_i h
            exact Bool.noConfusion ((q).symm.trans h)
          rename_i hN
          clear hN
          conv => whnf
          repeat first
            | (refine DRAW.seek ?_; repeat (first | refine TRYD.take ?_ | refine TRYD.next ?_); conv => whnf)
            | (refine HOLD.mk (by first | exact trivial | exact ⟨⟨rfl, rfl⟩, trivial⟩ | exact ⟨⟨rfl, rfl⟩, ⟨rfl, rfl⟩, trivial⟩) ?_; (conv => whnf))
            | (refine CALL0.by (hA ..) rfl ?_; conv => whnf)
            | (refine CALLQ.mk _ _ _ (leL_refl _) (hA ..) rfl ?_; conv => whnf)
          split
          rotate_left
          · rename_i h
            exact Bool.noConfusion ((q).symm.trans h)
          rename_i hN
          clear hN
          conv => whnf
          repeat first
            | (refine DRAW.seek ?_; repeat (first | refine TRYD.take ?_ | refine TRYD.next ?_); conv => whnf)
            | (refine HOLD.mk (by first | exact trivial | exact ⟨⟨rfl, rfl⟩, trivial⟩ | exact ⟨⟨rfl, rfl⟩, ⟨rfl, rfl⟩, trivial⟩) ?_; (conv => whnf))
            | (refine CALL0.by (hN ..) rfl ?_; conv => whnf)
            | (refine CALLQ.mk _ _ _ (leL_refl _) (hN ..) rfl ?_; conv => whnf)
          exact ⟨congrArg (fun x => IV.tup [.nilS, .int .i64 x, .int .i64 19]) hw, rfl⟩
        | succ i =>
          conv => whnf
          split
          rotate_left
          · rename_i h
            exact Bool.noConfusion ((q).symm.trans h)
          rename_i hN
          clear hN
          conv => whnf
          refine DRAW.seek ?_
          repeat (first | refine TRYD.take ?_ | refine TRYD.next ?_)
          conv => whnf
          split
          rotate_left
          · rename_i h
            exact Bool.noConfusion ((q).symm.trans h)
          rename_i hN
          clear hN
          conv => whnf
          repeat first
            | (refine DRAW.seek ?_; repeat (first | refine TRYD.take ?_ | refine TRYD.next ?_); conv => whnf)
            | (refine HOLD.mk (by first | exact trivial | exact ⟨⟨rfl, rfl⟩, trivial⟩ | exact ⟨⟨rfl, rfl⟩, ⟨rfl, rfl⟩, trivial⟩) ?_; (conv => whnf))
            | (refine CALL0.by (hA ..) rfl ?_; conv => whnf)
            | (refine CALLQ.mk _ _ _ (leL_refl _) (hA ..) rfl ?_; conv => whnf)
          split
          rotate_left
          · rename_i h
            exact Bool.noConfusion ((qj).symm.trans h)
          rename_i hN
          clear hN
          conv => whnf
          split
          rotate_left
          · rename_i h
            exact Bool.noConfusion ((q).symm.trans h)
          rename_i hN
          clear hN
          conv => whnf
          repeat first
            | (refine DRAW.seek ?_; repeat (first | refine TRYD.take ?_ | refine TRYD.next ?_); conv => whnf)
            | (refine HOLD.mk (by first | exact trivial | exact ⟨⟨rfl, rfl⟩, trivial⟩ | exact ⟨⟨rfl, rfl⟩, ⟨rfl, rfl⟩, trivial⟩) ?_; (conv => whnf))
            | (refine CALL0.by (hN ..) rfl ?_; conv => whnf)
            | (refine CALLQ.mk _ _ _ (leL_refl _) (hN ..) rfl ?_; conv => whnf)
          exact ⟨congrArg (fun x => IV.tup [.nilS, .int .i64 x, .int .i64 19]) hw, rfl⟩
      | false =>
        rw [q2] at hN
        simp only [cond_false] at hN
        have hse : stepE m l i = 0 := by unfold stepE; rw [h1, q2]; rfl
        rw [hse] at hstep
        have hR1 : repE m l (n - (i + 1)) (i + 1) = R := hstep.symm.trans he
        have hz : (repS m l i).allowedN m (l i) = 0 := by simpa using q2
        have hnx : (repS m l (i + 1)).inv m := behind_inv hm hs ha hz
        cases i with
        | zero =>
          conv => whnf
          split
          rotate_left
          · rename_i h
            exact Bool.noConfusion ((q).symm.trans h)
          rename_i hN
          clear hN
          conv => whnf
          refine DRAW.seek ?_
          repeat (first | refine TRYD.take ?_ | refine TRYD.next ?_)
          conv => whnf
          split
          rotate_left
          · rename_i h
            exact Bool.noConfusion ((q).symm.trans h)
          rename_i hN
          clear hN
          conv => whnf
          repeat first
            | (refine DRAW.seek ?_; repeat (first | refine TRYD.take ?_ | refine TRYD.next ?_); conv => whnf)
            | (refine HOLD.mk (by first | exact trivial | exact ⟨⟨rfl, rfl⟩, trivial⟩ | exact ⟨⟨rfl, rfl⟩, ⟨rfl, rfl⟩, trivial⟩) ?_; (conv => whnf))
            | (refine CALL0.by (hA ..) rfl ?_; conv => whnf)
            | (refine CALLQ.mk _ _ _ (leL_refl _) (hA ..) rfl ?_; conv => whnf)
          split
          rotate_left
          · rename_i h
            exact Bool.noConfusion ((q).symm.trans h)
          rename_i hN
          clear hN
          conv => whnf
          repeat first
            | (refine DRAW.seek ?_; repeat (first | refine TRYD.take ?_ | refine TRYD.next ?_); conv => whnf)
            | (refine HOLD.mk (by first | exact trivial | exact ⟨⟨rfl, rfl⟩, trivial⟩ | exact ⟨⟨rfl, rfl⟩, ⟨rfl, rfl⟩, trivial⟩) ?_; (conv => whnf))
            | (refine CALL0.by (hN ..) rfl ?_; conv => whnf)
            | (refine CALLQ.mk _ _ _ (leL_refl _) (hN ..) rfl ?_; conv => whnf)
          refine ⟨⟨1, hlt, hR1, hnx⟩, ⟨⟨leV_int hw, ⟨.inr rfl, rfl, rfl, fun j hj => ?_⟩, leV_refl _, leV_refl _, trivial⟩, ⟨leL_refl _, trivial⟩, rfl, rfl⟩, (by show n - 1 < n - 0; omega)⟩
          obtain rfl | rfl : j = 0 ∨ j = 1 := by have : j < 1 + 1 := hj; omega
          · rfl
          · rfl
        | succ i =>
          conv => whnf
          split
          rotate_left
          · rename_i h
            exact Bool.noConfusion ((q).symm.trans h)
          rename_i hN
          clear hN
          conv => whnf
          refine DRAW.seek ?_
          repeat (first | refine TRYD.take ?_ | refine TRYD.next ?_)
          conv => whnf
          split
          rotate_left
          · rename_i h
            exact Bool.noConfusion ((q).symm.trans h)
          rename_i hN
          clear hN
          conv => whnf
          repeat first
            | (refine DRAW.seek ?_; repeat (first | refine TRYD.take ?_ | refine TRYD.next ?_); conv => whnf)
            | (refine HOLD.mk (by first | exact trivial | exact ⟨⟨rfl, rfl⟩, trivial⟩ | exact ⟨⟨rfl, rfl⟩, ⟨rfl, rfl⟩, trivial⟩) ?_; (conv => whnf))
            | (refine CALL0.by (hA ..) rfl ?_; conv => whnf)
            | (refine CALLQ.mk _ _ _ (leL_refl _) (hA ..) rfl ?_; conv => whnf)
          split
          rotate_left
          · rename_i h
            exact Bool.noConfusion ((qj).symm.trans h)
          rename_i hN
          clear hN
          conv => whnf
          split
          rotate_left
          · rename_i h
            exact Bool.noConfusion ((q).symm.trans h)
          rename_i hN
          clear hN
          conv => whnf
          repeat first
            | (refine DRAW.seek ?_; repeat (first | refine TRYD.take ?_ | refine TRYD.next ?_); conv => whnf)
            | (refine HOLD.mk (by first | exact trivial | exact ⟨⟨rfl, rfl⟩, trivial⟩ | exact ⟨⟨rfl, rfl⟩, ⟨rfl, rfl⟩, trivial⟩) ?_; (conv => whnf))
            | (refine CALL0.by (hN ..) rfl ?_; conv => whnf)
            | (refine CALLQ.mk _ _ _ (leL_refl _) (hN ..) rfl ?_; conv => whnf)
          split
          rotate_left
          · rename_i h
            have h' : decide (1 + (i + 1) + 1 ≤ 1073741824) = false := h
            simp at h' <;> omega
          conv => whnf
          refine ⟨⟨i + 2, hlt, hR1, hnx⟩, ⟨⟨leV_int hw, ⟨.inr rfl, rfl, rfl, fun j hj => ?_⟩, leV_refl _, leV_refl _, trivial⟩, ⟨leL_refl _, trivial⟩, rfl, rfl⟩, (by show n - (i + 2) < n - (i + 1); omega)⟩
          show (if j < 1 + (i + 1) then F j else litF 7 (F (i + 2)) (j - (1 + (i + 1)))) = F j
          split
          · rfl
          · have : j = i + 2 := by have : j < 1 + (i + 2) := hj; omega
            subst this
            rw [show i + 2 - (1 + (i + 1)) = 0 by omega]
            rfl
  · have q : decide ((i : Int) < n) = false := decide_eq_false (by omega)
    have e : i = n := by omega
    subst e
    rw [Nat.sub_self] at he
    have q3 : (R.2 != 0) = false := by rw [← he]; rfl
    rw [q3]
    conv => whnf
    split
    · rename_i h
      exact Bool.noConfusion ((q).symm.trans h)
    rename_i hN
    clear hN
    conv => whnf
    exact ⟨rfl, rfl⟩

/-- A history without an error. -/
structure Hist (m : Mc) (n : Nat) (l : Nat → Ac) : Prop where
  ok : m.ok
  len : n ≤ 1024
  err : (repE m l n 0).2 = 0

theorem c_rStatesOk (up : List Ces) (m : Mc) (n : Nat) (l : Nat → Ac) (h : Hist m n l) :
    Cs gl n_nacelleref05_States up [m.iv, .lst none 5 n fun i => (l i).cs] (.tup [.lst none 7 (1 + n) fun i => (repS m l i).cs, .int .i64 0, .int .i64 0]) up := by
  have hl := h.len
  have hS := c_rStates (gl := gl) up m n (by omega) l h.ok
  unfold statesR at hS
  rw [show decide ((n : Int) > 1024) = false from decide_eq_false (by omega), h.err] at hS
  exact Comp.res (r := .tup [.lst (some (tgT n)) 7 (1 + n) fun i => (repS m l i).cs, .int .i64 0, .int .i64 0]) hS ⟨tagless _ _ _ _, leV_refl _, leV_refl _, trivial⟩

theorem c_rSpeeds (up : List Ces) (m : Mc) (n : Nat) (l : Nat → Ac) (h : Hist m n l) :
    Cs gl n_nacelleref05_Speeds up [m.iv, .lst none 5 n fun i => (l i).cs] (.lst (some 30) 1 n fun i => [.int .i64 (repS m l (i + 1)).speed]) up := by
  have hl := h.len
  have hS := fun up => c_rStatesOk (gl := gl) up m n l h
  refine mk h_nacelleref05_Speeds rfl rfl ?_
  let F : Nat → List IV := fun i => [.int .i64 (repS m l (i + 1)).speed]
  conv => whnf
  repeat first
    | (refine DRAW.seek ?_; repeat (first | refine TRYD.take ?_ | refine TRYD.next ?_); conv => whnf)
    | (refine HOLD.mk (by first | exact trivial | exact ⟨⟨rfl, rfl⟩, trivial⟩ | exact ⟨⟨rfl, rfl⟩, ⟨rfl, rfl⟩, trivial⟩) ?_; (conv => whnf))
    | (refine CALL0.by (hS ..) rfl ?_; conv => whnf)
    | (refine CALLQ.mk _ _ _ (leL_refl _) (hS ..) rfl ?_; conv => whnf)
  refine .mk (α := {i : Nat // i ≤ n}) (fun i => ⟨[(9, .int .i64 ((1 + i.1 : Nat) : Int)), (8, .lst (some 30) 1 i.1 F), (5, .lst none 7 (1 + n) fun i => (repS m l i).cs)], [], up⟩) (fun i => n - i.1) ⟨0, Nat.zero_le _⟩ ⟨?_, trivial, rfl, rfl⟩ ?_
  · exact ⟨leV_refl _, rfl, leV_refl _, trivial⟩
  rintro ⟨i, hi⟩
  have hw : w64 (((1 + i : Nat) : Int) + 1) = ((1 + (i + 1) : Nat) : Int) := by rw [w64, wrap_in] <;> omega
  by_cases hlt : i < n
  · have q : decide (((1 + i : Nat) : Int) < ((1 + n : Nat) : Int)) = true := decide_eq_true (by omega)
    conv => whnf
    split
    rotate_left
    · rename_i h
      exact Bool.noConfusion ((q).symm.trans h)
    rename_i hN
    clear hN
    conv => whnf
    split
    rotate_left
    · rename_i h
      exact Bool.noConfusion ((q).symm.trans h)
    rename_i hN
    clear hN
    conv => whnf
    split
    rotate_left
    · rename_i h
      have h' : decide (i + 1 ≤ 1073741824) = false := h
      simp at h' <;> omega
    conv => whnf
    refine ⟨⟨i + 1, hlt⟩, ⟨⟨leV_int hw, ⟨.inr rfl, rfl, rfl, fun j hj => ?_⟩, leV_refl _, trivial⟩, trivial, rfl, rfl⟩, (by show n - (i + 1) < n - i; omega)⟩
    show (if j < i then F j else litF 1 [.int .i64 (repS m l (1 + i)).speed] (j - i)) = F j
    split
    · rfl
    · have : j = i := by have : j < i + 1 := hj; omega
      subst this
      rw [Nat.sub_self, Nat.add_comm 1 j]; rfl
  · have q : decide (((1 + i : Nat) : Int) < ((1 + n : Nat) : Int)) = false := decide_eq_false (by omega)
    have : i = n := by omega
    subst this
    conv => whnf
    split
    · rename_i h
      exact Bool.noConfusion ((q).symm.trans h)
    rename_i hN
    clear hN
    conv => whnf
    exact ⟨rfl, rfl⟩

set_option maxHeartbeats 8000000 in
theorem c_rEnergy (up : List Ces) (m : Mc) (n : Nat) (l : Nat → Ac) (h : Hist m n l) :
    Cs gl n_nacelleref05_Energy up [m.iv, .lst none 5 n fun i => (l i).cs] (.int .i64 (engS m l n)) up := by
  have hl := h.len
  have hS := fun up => c_rStatesOk (gl := gl) up m n l h
  refine mk h_nacelleref05_Energy rfl rfl ?_
  conv => whnf
  repeat first
    | (refine DRAW.seek ?_; repeat (first | refine TRYD.take ?_ | refine TRYD.next ?_); conv => whnf)
    | (refine HOLD.mk (by first | exact trivial | exact ⟨⟨rfl, rfl⟩, trivial⟩ | exact ⟨⟨rfl, rfl⟩, ⟨rfl, rfl⟩, trivial⟩) ?_; (conv => whnf))
    | (refine CALL0.by (hS ..) rfl ?_; conv => whnf)
    | (refine CALLQ.mk _ _ _ (leL_refl _) (hS ..) rfl ?_; conv => whnf)
  refine .mk (α := {i : Nat // i ≤ n}) (fun i => ⟨[(9, .int .i64 i.1), (8, .int .i64 (engS m l i.1)), (5, .lst none 7 (1 + n) fun i => (repS m l i).cs), (1, .lst none 5 n fun i => (l i).cs)], [], up⟩) (fun i => n - i.1) ⟨0, Nat.zero_le _⟩ ⟨?_, trivial, rfl, rfl⟩ ?_
  · exact ⟨leV_refl _, leV_refl _, leV_refl _, leV_refl _, trivial⟩
  rintro ⟨i, hi⟩
  have hw : w64 ((i : Int) + 1) = ((i + 1 : Nat) : Int) := by rw [w64, wrap_in] <;> omega
  by_cases hlt : i < n
  · have q : decide ((i : Int) < n) = true := decide_eq_true (by omega)
    cases qt : eqS (l i).kind sTick with
    | false =>
      have e : engS m l (i + 1) = engS m l i := by
        show (bif eqS (l i).kind sTick then _ else _) = _
        rw [qt]; rfl
      conv => whnf
      split
      rotate_left
      · rename_i h
        exact Bool.noConfusion ((q).symm.trans h)
      rename_i hN
      clear hN
      conv => whnf
      split
      rotate_left
      · rename_i h
        exact Bool.noConfusion ((q).symm.trans h)
      rename_i hN
      clear hN
      conv => whnf
      split
      · rename_i h
        exact Bool.noConfusion ((qt).symm.trans h)
      rename_i hN
      clear hN
      conv => whnf
      exact ⟨⟨i + 1, hlt⟩, ⟨⟨leV_int hw, leV_int e.symm, leV_refl _, leV_refl _, trivial⟩, trivial, rfl, rfl⟩, (by show n - (i + 1) < n - i; omega)⟩
    | true =>
      have e : engS m l (i + 1) = w64 (engS m l i + w64 ((repS m l (i + 1)).tor * (repS m l (i + 1)).speed)) := by
        show (bif eqS (l i).kind sTick then _ else _) = _
        rw [qt]; rfl
      have q1 : decide (0 ≤ w64 ((i : Int) + 1)) = true := by rw [hw]; exact decide_eq_true (by omega)
      have q2 : decide (w64 ((i : Int) + 1) < ((1 + n : Nat) : Int)) = true := by rw [hw]; exact decide_eq_true (by omega)
      have q3 : (w64 ((i : Int) + 1)).toNat = i + 1 := by rw [hw]; rfl
      conv => whnf
      split
      rotate_left
      · rename_i h
        exact Bool.noConfusion ((q).symm.trans h)
      rename_i hN
      clear hN
      conv => whnf
      split
      rotate_left
      · rename_i h
        exact Bool.noConfusion ((q).symm.trans h)
      rename_i hN
      clear hN
      conv => whnf
      split
      rotate_left
      · rename_i h
        exact Bool.noConfusion ((qt).symm.trans h)
      rename_i hN
      clear hN
      conv => whnf
      refine DRAW.seek ?_
      repeat (first | refine TRYD.take ?_ | refine TRYD.next ?_)
      conv => whnf
      split
      rotate_left
      · rename_i h
        exact Bool.noConfusion ((q1).symm.trans h)
      rename_i hN
      clear hN
      conv => whnf
      split
      rotate_left
      · rename_i h
        exact Bool.noConfusion ((q2).symm.trans h)
      rename_i hN
      clear hN
      conv => whnf
      split
      rotate_left
      · rename_i h
        exact Bool.noConfusion ((q1).symm.trans h)
      rename_i hN
      clear hN
      conv => whnf
      split
      rotate_left
      · rename_i h
        exact Bool.noConfusion ((q2).symm.trans h)
      rename_i hN
      clear hN
      conv => whnf
      refine ⟨⟨i + 1, hlt⟩, ⟨⟨leV_int hw, leV_int ?_, leV_refl _, leV_refl _, trivial⟩, trivial, rfl, rfl⟩, (by show n - (i + 1) < n - i; omega)⟩
      show w64 (engS m l i + w64 ((repS m l (w64 ((i : Int) + 1)).toNat).tor * (repS m l (w64 ((i : Int) + 1)).toNat).speed)) = _
      rw [q3, e]
  · have q : decide ((i : Int) < n) = false := decide_eq_false (by omega)
    have : i = n := by omega
    subst this
    conv => whnf
    split
    · rename_i h
      exact Bool.noConfusion ((q).symm.trans h)
    rename_i hN
    clear hN
    conv => whnf
    exact ⟨rfl, rfl⟩

noncomputable def histE (m : Mc) (n : Nat) (l : Nat → Ac) : Int := bif m.err != 0 then m.err else bif decide ((n : Int) > 1024) then 5 else (repE m l n 0).2

theorem c_rHistory (up : List Ces) (m : Mc) (n : Nat) (hn : n ≤ 10000000) (l : Nat → Ac) : Cs gl n_nacelleref05_CheckHistory up [m.iv, .lst none 5 n fun i => (l i).cs] (.int .i64 (histE m n l)) up := by
  refine mk h_nacelleref05_CheckHistory rfl rfl ?_
  unfold histE
  by_cases h0 : m.err = 0
  rotate_left
  · have q : (m.err != 0) = true := by simpa using h0
    rw [q]
    conv => whnf
    repeat first
      | (refine DRAW.seek ?_; repeat (first | refine TRYD.take ?_ | refine TRYD.next ?_); conv => whnf)
      | (refine HOLD.mk (by first | exact trivial | exact ⟨⟨rfl, rfl⟩, trivial⟩ | exact ⟨⟨rfl, rfl⟩, ⟨rfl, rfl⟩, trivial⟩) ?_; (conv => whnf))
      | (refine CALL0.by (c_rMachine ..) rfl ?_; conv => whnf)
      | (refine CALLQ.mk _ _ _ (leL_refl _) (c_rMachine ..) rfl ?_; conv => whnf)
    split
    rotate_left
    · rename_i h
      exact Bool.noConfusion ((q).symm.trans h)
    rename_i hN
    clear hN
    conv => whnf
    exact ⟨rfl, rfl⟩
  · have q : (m.err != 0) = false := by simpa using h0
    rw [q]
    have hS := fun up => c_rStates (gl := gl) up m n hn l (Mc.err_ok h0)
    unfold statesR at hS
    cases q0 : decide ((n : Int) > 1024) with
    | true =>
      rw [q0] at hS
      simp only [cond_true] at hS
      conv => whnf
      repeat first
        | (refine DRAW.seek ?_; repeat (first | refine TRYD.take ?_ | refine TRYD.next ?_); conv => whnf)
        | (refine HOLD.mk (by first | exact trivial | exact ⟨⟨rfl, rfl⟩, trivial⟩ | exact ⟨⟨rfl, rfl⟩, ⟨rfl, rfl⟩, trivial⟩) ?_; (conv => whnf))
        | (refine CALL0.by (c_rMachine ..) rfl ?_; conv => whnf)
        | (refine CALLQ.mk _ _ _ (leL_refl _) (c_rMachine ..) rfl ?_; conv => whnf)
      split
      · rename_i h
        exact Bool.noConfusion ((q).symm.trans h)
      rename_i hN
      clear hN
      conv => whnf
      repeat first
        | (refine DRAW.seek ?_; repeat (first | refine TRYD.take ?_ | refine TRYD.next ?_); conv => whnf)
        | (refine HOLD.mk (by first | exact trivial | exact ⟨⟨rfl, rfl⟩, trivial⟩ | exact ⟨⟨rfl, rfl⟩, ⟨rfl, rfl⟩, trivial⟩) ?_; (conv => whnf))
        | (refine CALL0.by (hS ..) rfl ?_; conv => whnf)
        | (refine CALLQ.mk _ _ _ (leL_refl _) (hS ..) rfl ?_; conv => whnf)
      exact ⟨rfl, rfl⟩
    | false =>
      rw [q0] at hS
      simp only [cond_false] at hS
      cases q1 : ((repE m l n 0).2 != 0) with
      | true =>
        rw [q1] at hS
        simp only [cond_true] at hS
        conv => whnf
        repeat first
          | (refine DRAW.seek ?_; repeat (first | refine TRYD.take ?_ | refine TRYD.next ?_); conv => whnf)
          | (refine HOLD.mk (by first | exact trivial | exact ⟨⟨rfl, rfl⟩, trivial⟩ | exact ⟨⟨rfl, rfl⟩, ⟨rfl, rfl⟩, trivial⟩) ?_; (conv => whnf))
          | (refine CALL0.by (c_rMachine ..) rfl ?_; conv => whnf)
          | (refine CALLQ.mk _ _ _ (leL_refl _) (c_rMachine ..) rfl ?_; conv => whnf)
        split
        · rename_i h
          exact Bool.noConfusion ((q).symm.trans h)
        rename_i hN
        clear hN
        conv => whnf
        repeat first
          | (refine DRAW.seek ?_; repeat (first | refine TRYD.take ?_ | refine TRYD.next ?_); conv => whnf)
          | (refine HOLD.mk (by first | exact trivial | exact ⟨⟨rfl, rfl⟩, trivial⟩ | exact ⟨⟨rfl, rfl⟩, ⟨rfl, rfl⟩, trivial⟩) ?_; (conv => whnf))
          | (refine CALL0.by (hS ..) rfl ?_; conv => whnf)
          | (refine CALLQ.mk _ _ _ (leL_refl _) (hS ..) rfl ?_; conv => whnf)
        exact ⟨rfl, rfl⟩
      | false =>
        rw [q1] at hS
        simp only [cond_false] at hS
        have hS := fun up => (hS up).res (r' := .tup [.lst none 7 (1 + n) fun i => (repS m l i).cs, .int .i64 0, .int .i64 0]) ⟨tagless _ _ _ _, leV_refl _, leV_refl _, trivial⟩
        have z : (repE m l n 0).2 = 0 := by simpa using q1
        rw [z]
        conv => whnf
        repeat first
          | (refine DRAW.seek ?_; repeat (first | refine TRYD.take ?_ | refine TRYD.next ?_); conv => whnf)
          | (refine HOLD.mk (by first | exact trivial | exact ⟨⟨rfl, rfl⟩, trivial⟩ | exact ⟨⟨rfl, rfl⟩, ⟨rfl, rfl⟩, trivial⟩) ?_; (conv => whnf))
          | (refine CALL0.by (c_rMachine ..) rfl ?_; conv => whnf)
          | (refine CALLQ.mk _ _ _ (leL_refl _) (c_rMachine ..) rfl ?_; conv => whnf)
        split
        · rename_i h
          exact Bool.noConfusion ((q).symm.trans h)
        rename_i hN
        clear hN
        conv => whnf
        repeat first
          | (refine DRAW.seek ?_; repeat (first | refine TRYD.take ?_ | refine TRYD.next ?_); conv => whnf)
          | (refine HOLD.mk (by first | exact trivial | exact ⟨⟨rfl, rfl⟩, trivial⟩ | exact ⟨⟨rfl, rfl⟩, ⟨rfl, rfl⟩, trivial⟩) ?_; (conv => whnf))
          | (refine CALL0.by (hS ..) rfl ?_; conv => whnf)
          | (refine CALLQ.mk _ _ _ (leL_refl _) (hS ..) rfl ?_; conv => whnf)
        exact ⟨rfl, rfl⟩
end Go.Proofs.YtkdlegfakefjgaaGreatDoor.Ix
