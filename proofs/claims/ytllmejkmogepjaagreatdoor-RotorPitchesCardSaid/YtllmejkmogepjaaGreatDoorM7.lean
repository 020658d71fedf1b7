/-
  Lf1: RotorForces: the law.
-/
import Derived.Test.YtllmejkmogepjaaGreatDoorM6
namespace Go.Proofs.YtllmejkmogepjaaGreatDoor.Ix
open Go.Proofs
set_option maxRecDepth 100000
set_option linter.unusedVariables false
set_option linter.unusedSimpArgs false
variable {gl : Nat → IV}

def lightB (b : Bl) (f : Fl) : Bool := b.short && (b.err != 0 || f.err != 0 || lightS b f)

theorem c_light (up : List Ces) (b : Bl) (f : Fl) : Cs gl n_nacellelaw03_light up [b.iv, f.iv] (.bool (lightB b f)) up := by
  refine mk h_nacellelaw03_light rfl rfl ?_
  have hS := fun up => c_Short (gl := gl) up b
  have hE := fun up => c_rCheckBlade (gl := gl) up b
  have hF := fun up => c_rCheckFlow (gl := gl) up f.w f.s f.p
  unfold lightB
  cases hs : b.short with
  | false =>
    rw [hs] at hS
    conv => whnf
    repeat first
      | (show DRAW _ _ _ _ _; (first | refine .mk 0 (by decide +kernel) ?_ | refine .mk 1 (by decide +kernel) ?_ | refine .mk 2 (by decide +kernel) ?_ | refine .mk 3 (by decide +kernel) ?_ | refine .mk 4 (by decide +kernel) ?_ | refine .mk 5 (by decide +kernel) ?_ | refine .mk 6 (by decide +kernel) ?_ | refine .mk 7 (by decide +kernel) ?_ | refine .mk 8 (by decide +kernel) ?_ | refine .mk 9 (by decide +kernel) ?_ | refine .mk 10 (by decide +kernel) ?_ | refine .mk 11 (by decide +kernel) ?_ | refine .mk 12 (by decide +kernel) ?_ | refine .mk 13 (by decide +kernel) ?_ | refine .mk 14 (by decide +kernel) ?_ | refine .mk 15 (by decide +kernel) ?_ | refine .mk 16 (by decide +kernel) ?_ | refine .mk 17 (by decide +kernel) ?_ | refine .mk 18 (by decide +kernel) ?_ | refine .mk 19 (by decide +kernel) ?_ | refine .mk 20 (by decide +kernel) ?_ | refine .mk 21 (by decide +kernel) ?_ | refine .mk 22 (by decide +kernel) ?_ | refine .mk 23 (by decide +kernel) ?_ | refine .mk 24 (by decide +kernel) ?_ | refine .mk 25 (by decide +kernel) ?_ | refine .mk 26 (by decide +kernel) ?_ | refine .mk 27 (by decide +kernel) ?_ | refine .mk 28 (by decide +kernel) ?_ | refine .mk 29 (by decide +kernel) ?_ | refine .mk 30 (by decide +kernel) ?_ | refine .mk 31 (by decide +kernel) ?_ | refine .mk 32 (by decide +kernel) ?_ | refine .mk 33 (by decide +kernel) ?_ | refine .mk 34 (by decide +kernel) ?_ | refine .mk 35 (by decide +kernel) ?_ | refine .mk 36 (by decide +kernel) ?_ | refine .mk 37 (by decide +kernel) ?_ | refine .mk 38 (by decide +kernel) ?_ | refine .mk 39 (by decide +kernel) ?_ | refine .mk 40 (by decide +kernel) ?_ | refine .mk 41 (by decide +kernel) ?_); (conv => whnf))
      | (refine HOLD.mk (by first | exact trivial | exact ⟨⟨rfl, rfl⟩, trivial⟩ | exact ⟨⟨rfl, rfl⟩, ⟨rfl, rfl⟩, trivial⟩) ?_; (conv => whnf))
      | (refine CALL0.mk _ _ _ _ _ (leL_refl _) (hS ..) rfl ?_; conv => whnf)
      | (refine CALLQ.mk _ _ _ (leL_refl _) (hS ..) rfl ?_; conv => whnf)
    exact ⟨rfl, rfl⟩
  | true =>
    rw [hs] at hS
    by_cases e1 : b.err = 0
    · by_cases e2 : f.err = 0
      · have hL := fun up => c_Light (gl := gl) up b f e1 e2
        rw [e1] at hE
        have e2' : flowS f.w f.s f.p = 0 := e2
        rw [e2'] at hF
        conv => whnf
        repeat first
          | (show DRAW _ _ _ _ _; (first | refine .mk 0 (by decide +kernel) ?_ | refine .mk 1 (by decide +kernel) ?_ | refine .mk 2 (by decide +kernel) ?_ | refine .mk 3 (by decide +kernel) ?_ | refine .mk 4 (by decide +kernel) ?_ | refine .mk 5 (by decide +kernel) ?_ | refine .mk 6 (by decide +kernel) ?_ | refine .mk 7 (by decide +kernel) ?_ | refine .mk 8 (by decide +kernel) ?_ | refine .mk 9 (by decide +kernel) ?_ | refine .mk 10 (by decide +kernel) ?_ | refine .mk 11 (by decide +kernel) ?_ | refine .mk 12 (by decide +kernel) ?_ | refine .mk 13 (by decide +kernel) ?_ | refine .mk 14 (by decide +kernel) ?_ | refine .mk 15 (by decide +kernel) ?_ | refine .mk 16 (by decide +kernel) ?_ | refine .mk 17 (by decide +kernel) ?_ | refine .mk 18 (by decide +kernel) ?_ | refine .mk 19 (by decide +kernel) ?_ | refine .mk 20 (by decide +kernel) ?_ | refine .mk 21 (by decide +kernel) ?_ | refine .mk 22 (by decide +kernel) ?_ | refine .mk 23 (by decide +kernel) ?_ | refine .mk 24 (by decide +kernel) ?_ | refine .mk 25 (by decide +kernel) ?_ | refine .mk 26 (by decide +kernel) ?_ | refine .mk 27 (by decide +kernel) ?_ | refine .mk 28 (by decide +kernel) ?_ | refine .mk 29 (by decide +kernel) ?_ | refine .mk 30 (by decide +kernel) ?_ | refine .mk 31 (by decide +kernel) ?_ | refine .mk 32 (by decide +kernel) ?_ | refine .mk 33 (by decide +kernel) ?_ | refine .mk 34 (by decide +kernel) ?_ | refine .mk 35 (by decide +kernel) ?_ | refine .mk 36 (by decide +kernel) ?_ | refine .mk 37 (by decide +kernel) ?_ | refine .mk 38 (by decide +kernel) ?_ | refine .mk 39 (by decide +kernel) ?_ | refine .mk 40 (by decide +kernel) ?_ | refine .mk 41 (by decide +kernel) ?_); (conv => whnf))
          | (refine HOLD.mk (by first | exact trivial | exact ⟨⟨rfl, rfl⟩, trivial⟩ | exact ⟨⟨rfl, rfl⟩, ⟨rfl, rfl⟩, trivial⟩) ?_; (conv => whnf))
          | (refine CALL0.mk _ _ _ _ _ (leL_refl _) (hS ..) rfl ?_; conv => whnf)
          | (refine CALLQ.mk _ _ _ (leL_refl _) (hS ..) rfl ?_; conv => whnf)
          | (refine CALL0.mk _ _ _ _ _ (leL_refl _) (hE ..) rfl ?_; conv => whnf)
          | (refine CALLQ.mk _ _ _ (leL_refl _) (hE ..) rfl ?_; conv => whnf)
          | (refine CALL0.mk _ _ _ _ _ (leL_refl _) (hF ..) rfl ?_; conv => whnf)
          | (refine CALLQ.mk _ _ _ (leL_refl _) (hF ..) rfl ?_; conv => whnf)
          | (refine CALL0.mk _ _ _ _ _ (leL_refl _) (hL ..) rfl ?_; conv => whnf)
          | (refine CALLQ.mk _ _ _ (leL_refl _) (hL ..) rfl ?_; conv => whnf)
        refine ⟨?_, rfl⟩
        rw [e1, e2]; rfl
      · have q : (f.err != 0) = true := by simpa using e2
        rw [e1] at hE
        conv => whnf
        repeat first
          | (show DRAW _ _ _ _ _; (first | refine .mk 0 (by decide +kernel) ?_ | refine .mk 1 (by decide +kernel) ?_ | refine .mk 2 (by decide +kernel) ?_ | refine .mk 3 (by decide +kernel) ?_ | refine .mk 4 (by decide +kernel) ?_ | refine .mk 5 (by decide +kernel) ?_ | refine .mk 6 (by decide +kernel) ?_ | refine .mk 7 (by decide +kernel) ?_ | refine .mk 8 (by decide +kernel) ?_ | refine .mk 9 (by decide +kernel) ?_ | refine .mk 10 (by decide +kernel) ?_ | refine .mk 11 (by decide +kernel) ?_ | refine .mk 12 (by decide +kernel) ?_ | refine .mk 13 (by decide +kernel) ?_ | refine .mk 14 (by decide +kernel) ?_ | refine .mk 15 (by decide +kernel) ?_ | refine .mk 16 (by decide +kernel) ?_ | refine .mk 17 (by decide +kernel) ?_ | refine .mk 18 (by decide +kernel) ?_ | refine .mk 19 (by decide +kernel) ?_ | refine .mk 20 (by decide +kernel) ?_ | refine .mk 21 (by decide +kernel) ?_ | refine .mk 22 (by decide +kernel) ?_ | refine .mk 23 (by decide +kernel) ?_ | refine .mk 24 (by decide +kernel) ?_ | refine .mk 25 (by decide +kernel) ?_ | refine .mk 26 (by decide +kernel) ?_ | refine .mk 27 (by decide +kernel) ?_ | refine .mk 28 (by decide +kernel) ?_ | refine .mk 29 (by decide +kernel) ?_ | refine .mk 30 (by decide +kernel) ?_ | refine .mk 31 (by decide +kernel) ?_ | refine .mk 32 (by decide +kernel) ?_ | refine .mk 33 (by decide +kernel) ?_ | refine .mk 34 (by decide +kernel) ?_ | refine .mk 35 (by decide +kernel) ?_ | refine .mk 36 (by decide +kernel) ?_ | refine .mk 37 (by decide +kernel) ?_ | refine .mk 38 (by decide +kernel) ?_ | refine .mk 39 (by decide +kernel) ?_ | refine .mk 40 (by decide +kernel) ?_ | refine .mk 41 (by decide +kernel) ?_); (conv => whnf))
          | (refine HOLD.mk (by first | exact trivial | exact ⟨⟨rfl, rfl⟩, trivial⟩ | exact ⟨⟨rfl, rfl⟩, ⟨rfl, rfl⟩, trivial⟩) ?_; (conv => whnf))
          | (refine CALL0.mk _ _ _ _ _ (leL_refl _) (hS ..) rfl ?_; conv => whnf)
          | (refine CALLQ.mk _ _ _ (leL_refl _) (hS ..) rfl ?_; conv => whnf)
          | (refine CALL0.mk _ _ _ _ _ (leL_refl _) (hE ..) rfl ?_; conv => whnf)
          | (refine CALLQ.mk _ _ _ (leL_refl _) (hE ..) rfl ?_; conv => whnf)
          | (refine CALL0.mk _ _ _ _ _ (leL_refl _) (hF ..) rfl ?_; conv => whnf)
          | (refine CALLQ.mk _ _ _ (leL_refl _) (hF ..) rfl ?_; conv => whnf)
        split
        rotate_left
        · rename_i h
          exact Bool.noConfusion ((q).symm.trans h)
        rename_i hN
        clear hN
        conv => whnf
        repeat first
          | (show DRAW _ _ _ _ _; (first | refine .mk 0 (by decide +kernel) ?_ | refine .mk 1 (by decide +kernel) ?_ | refine .mk 2 (by decide +kernel) ?_ | refine .mk 3 (by decide +kernel) ?_ | refine .mk 4 (by decide +kernel) ?_ | refine .mk 5 (by decide +kernel) ?_ | refine .mk 6 (by decide +kernel) ?_ | refine .mk 7 (by decide +kernel) ?_ | refine .mk 8 (by decide +kernel) ?_ | refine .mk 9 (by decide +kernel) ?_ | refine .mk 10 (by decide +kernel) ?_ | refine .mk 11 (by decide +kernel) ?_ | refine .mk 12 (by decide +kernel) ?_ | refine .mk 13 (by decide +kernel) ?_ | refine .mk 14 (by decide +kernel) ?_ | refine .mk 15 (by decide +kernel) ?_ | refine .mk 16 (by decide +kernel) ?_ | refine .mk 17 (by decide +kernel) ?_ | refine .mk 18 (by decide +kernel) ?_ | refine .mk 19 (by decide +kernel) ?_ | refine .mk 20 (by decide +kernel) ?_ | refine .mk 21 (by decide +kernel) ?_ | refine .mk 22 (by decide +kernel) ?_ | refine .mk 23 (by decide +kernel) ?_ | refine .mk 24 (by decide +kernel) ?_ | refine .mk 25 (by decide +kernel) ?_ | refine .mk 26 (by decide +kernel) ?_ | refine .mk 27 (by decide +kernel) ?_ | refine .mk 28 (by decide +kernel) ?_ | refine .mk 29 (by decide +kernel) ?_ | refine .mk 30 (by decide +kernel) ?_ | refine .mk 31 (by decide +kernel) ?_ | refine .mk 32 (by decide +kernel) ?_ | refine .mk 33 (by decide +kernel) ?_ | refine .mk 34 (by decide +kernel) ?_ | refine .mk 35 (by decide +kernel) ?_ | refine .mk 36 (by decide +kernel) ?_ | refine .mk 37 (by decide +kernel) ?_ | refine .mk 38 (by decide +kernel) ?_ | refine .mk 39 (by decide +kernel) ?_ | refine .mk 40 (by decide +kernel) ?_ | refine .mk 41 (by decide +kernel) ?_); (conv => whnf))
          | (refine HOLD.mk (by first | exact trivial | exact ⟨⟨rfl, rfl⟩, trivial⟩ | exact ⟨⟨rfl, rfl⟩, ⟨rfl, rfl⟩, trivial⟩) ?_; (conv => whnf))
          | (refine CALL0.mk _ _ _ _ _ (leL_refl _) (hE ..) rfl ?_; conv => whnf)
          | (refine CALLQ.mk _ _ _ (leL_refl _) (hE ..) rfl ?_; conv => whnf)
        refine ⟨?_, rfl⟩
        rw [e1, q]; rfl
    · have q : (b.err != 0) = true := by simpa using e1
      conv => whnf
      repeat first
        | (show DRAW _ _ _ _ _; (first | refine .mk 0 (by decide +kernel) ?_ | refine .mk 1 (by decide +kernel) ?_ | refine .mk 2 (by decide +kernel) ?_ | refine .mk 3 (by decide +kernel) ?_ | refine .mk 4 (by decide +kernel) ?_ | refine .mk 5 (by decide +kernel) ?_ | refine .mk 6 (by decide +kernel) ?_ | refine .mk 7 (by decide +kernel) ?_ | refine .mk 8 (by decide +kernel) ?_ | refine .mk 9 (by decide +kernel) ?_ | refine .mk 10 (by decide +kernel) ?_ | refine .mk 11 (by decide +kernel) ?_ | refine .mk 12 (by decide +kernel) ?_ | refine .mk 13 (by decide +kernel) ?_ | refine .mk 14 (by decide +kernel) ?_ | refine .mk 15 (by decide +kernel) ?_ | refine .mk 16 (by decide +kernel) ?_ | refine .mk 17 (by decide +kernel) ?_ | refine .mk 18 (by decide +kernel) ?_ | refine .mk 19 (by decide +kernel) ?_ | refine .mk 20 (by decide +kernel) ?_ | refine .mk 21 (by decide +kernel) ?_ | refine .mk 22 (by decide +kernel) ?_ | refine .mk 23 (by decide +kernel) ?_ | refine .mk 24 (by decide +kernel) ?_ | refine .mk 25 (by decide +kernel) ?_ | refine .mk 26 (by decide +kernel) ?_ | refine .mk 27 (by decide +kernel) ?_ | refine .mk 28 (by decide +kernel) ?_ | refine .mk 29 (by decide +kernel) ?_ | refine .mk 30 (by decide +kernel) ?_ | refine .mk 31 (by decide +kernel) ?_ | refine .mk 32 (by decide +kernel) ?_ | refine .mk 33 (by decide +kernel) ?_ | refine .mk 34 (by decide +kernel) ?_ | refine .mk 35 (by decide +kernel) ?_ | refine .mk 36 (by decide +kernel) ?_ | refine .mk 37 (by decide +kernel) ?_ | refine .mk 38 (by decide +kernel) ?_ | refine .mk 39 (by decide +kernel) ?_ | refine .mk 40 (by decide +kernel) ?_ | refine .mk 41 (by decide +kernel) ?_); (conv => whnf))
        | (refine HOLD.mk (by first | exact trivial | exact ⟨⟨rfl, rfl⟩, trivial⟩ | exact ⟨⟨rfl, rfl⟩, ⟨rfl, rfl⟩, trivial⟩) ?_; (conv => whnf))
        | (refine CALL0.mk _ _ _ _ _ (leL_refl _) (hS ..) rfl ?_; conv => whnf)
        | (refine CALLQ.mk _ _ _ (leL_refl _) (hS ..) rfl ?_; conv => whnf)
        | (refine CALL0.mk _ _ _ _ _ (leL_refl _) (hE ..) rfl ?_; conv => whnf)
        | (refine CALLQ.mk _ _ _ (leL_refl _) (hE ..) rfl ?_; conv => whnf)
      split
      rotate_left
      · rename_i h
        exact Bool.noConfusion ((q).symm.trans h)
      rename_i hN
      clear hN
      conv => whnf
      repeat first
        | (show DRAW _ _ _ _ _; (first | refine .mk 0 (by decide +kernel) ?_ | refine .mk 1 (by decide +kernel) ?_ | refine .mk 2 (by decide +kernel) ?_ | refine .mk 3 (by decide +kernel) ?_ | refine .mk 4 (by decide +kernel) ?_ | refine .mk 5 (by decide +kernel) ?_ | refine .mk 6 (by decide +kernel) ?_ | refine .mk 7 (by decide +kernel) ?_ | refine .mk 8 (by decide +kernel) ?_ | refine .mk 9 (by decide +kernel) ?_ | refine .mk 10 (by decide +kernel) ?_ | refine .mk 11 (by decide +kernel) ?_ | refine .mk 12 (by decide +kernel) ?_ | refine .mk 13 (by decide +kernel) ?_ | refine .mk 14 (by decide +kernel) ?_ | refine .mk 15 (by decide +kernel) ?_ | refine .mk 16 (by decide +kernel) ?_ | refine .mk 17 (by decide +kernel) ?_ | refine .mk 18 (by decide +kernel) ?_ | refine .mk 19 (by decide +kernel) ?_ | refine .mk 20 (by decide +kernel) ?_ | refine .mk 21 (by decide +kernel) ?_ | refine .mk 22 (by decide +kernel) ?_ | refine .mk 23 (by decide +kernel) ?_ | refine .mk 24 (by decide +kernel) ?_ | refine .mk 25 (by decide +kernel) ?_ | refine .mk 26 (by decide +kernel) ?_ | refine .mk 27 (by decide +kernel) ?_ | refine .mk 28 (by decide +kernel) ?_ | refine .mk 29 (by decide +kernel) ?_ | refine .mk 30 (by decide +kernel) ?_ | refine .mk 31 (by decide +kernel) ?_ | refine .mk 32 (by decide +kernel) ?_ | refine .mk 33 (by decide +kernel) ?_ | refine .mk 34 (by decide +kernel) ?_ | refine .mk 35 (by decide +kernel) ?_ | refine .mk 36 (by decide +kernel) ?_ | refine .mk 37 (by decide +kernel) ?_ | refine .mk 38 (by decide +kernel) ?_ | refine .mk 39 (by decide +kernel) ?_ | refine .mk 40 (by decide +kernel) ?_ | refine .mk 41 (by decide +kernel) ?_); (conv => whnf))
        | (refine HOLD.mk (by first | exact trivial | exact ⟨⟨rfl, rfl⟩, trivial⟩ | exact ⟨⟨rfl, rfl⟩, ⟨rfl, rfl⟩, trivial⟩) ?_; (conv => whnf))
        | (refine CALL0.mk _ _ _ _ _ (leL_refl _) (hE ..) rfl ?_; conv => whnf)
        | (refine CALLQ.mk _ _ _ (leL_refl _) (hE ..) rfl ?_; conv => whnf)
      refine ⟨?_, rfl⟩
      rw [q]; rfl

theorem c_span (up : List Ces) (x y e bad a b : Int) (h : e = bad) (h1 : bad ≠ 0 → x = 0 ∧ y = 0) (h2 : bad = 0 → x = a ∧ y = b) :
    Cs gl n_nacellelaw03_span up [.agg [.int .i64 x, .int .i64 y], .int .i64 e, .int .i64 bad, .agg [.int .i64 a, .int .i64 b]] (.bool true) up := by
  refine mk h_nacellelaw03_span rfl rfl ?_
  subst h
  conv => whnf
  repeat' (split <;> (conv => whnf))
  all_goals (refine ⟨?_, rfl⟩; simp_all)

theorem c_SameTorques (up : List Ces) (n : Nat) (hn : n ≤ 1000000) (x y : Nat → Int) : Cs gl n_nacelleref03_SameTorques up [.lst none 2 n fun i => [.int .i64 (x i), .int .i64 (y i)], .lst none 2 n fun i => [.int .i64 (x i), .int .i64 (y i)]] (.bool true) up := by
  refine mk h_nacelleref03_SameTorques rfl rfl ?_
  conv => whnf
  split
  · rename_i h
    exact absurd h (by simp)
  rename_i hN
  clear hN
  conv => whnf
  refine .mk (α := {k : Nat // k ≤ n}) (fun k => ⟨[(5, .int .i64 k.1), (0, .lst none 2 n fun i => [.int .i64 (x i), .int .i64 (y i)]), (1, .lst none 2 n fun i => [.int .i64 (x i), .int .i64 (y i)]), (4, .bool false)], [], up⟩) (fun k => n - k.1) ⟨0, Nat.zero_le _⟩ ⟨⟨leV_refl _, leV_refl _, leV_refl _, leV_refl _, trivial⟩, trivial, rfl, rfl⟩ ?_
  rintro ⟨k, hk⟩
  by_cases hkn : k < n
  · have q : decide ((k : Int) < n) = true := decide_eq_true (by omega)
    have e2 : w64 ((k : Int) + 1) = ((k + 1 : Nat) : Int) := by rw [w64, wrap_in] <;> omega
    conv => whnf
    split
    rotate_left
    · rename_i h
      exact Bool.noConfusion ((q).symm.trans h)
    rename_i hN
    clear hN
    conv => whnf
    first
      | refine .mk 0 (by decide +kernel) ?_
      | refine .mk 1 (by decide +kernel) ?_
      | refine .mk 2 (by decide +kernel) ?_
      | refine .mk 3 (by decide +kernel) ?_
      | refine .mk 4 (by decide +kernel) ?_
      | refine .mk 5 (by decide +kernel) ?_
      | refine .mk 6 (by decide +kernel) ?_
      | refine .mk 7 (by decide +kernel) ?_
      | refine .mk 8 (by decide +kernel) ?_
      | refine .mk 9 (by decide +kernel) ?_
      | refine .mk 10 (by decide +kernel) ?_
      | refine .mk 11 (by decide +kernel) ?_
      | refine .mk 12 (by decide +kernel) ?_
      | refine .mk 13 (by decide +kernel) ?_
      | refine .mk 14 (by decide +kernel) ?_
      | refine .mk 15 (by decide +kernel) ?_
      | refine .mk 16 (by decide +kernel) ?_
      | refine .mk 17 (by decide +kernel) ?_
      | refine .mk 18 (by decide +kernel) ?_
      | refine .mk 19 (by decide +kernel) ?_
      | refine .mk 20 (by decide +kernel) ?_
      | refine .mk 21 (by decide +kernel) ?_
      | refine .mk 22 (by decide +kernel) ?_
      | refine .mk 23 (by decide +kernel) ?_
      | refine .mk 24 (by decide +kernel) ?_
      | refine .mk 25 (by decide +kernel) ?_
      | refine .mk 26 (by decide +kernel) ?_
      | refine .mk 27 (by decide +kernel) ?_
      | refine .mk 28 (by decide +kernel) ?_
      | refine .mk 29 (by decide +kernel) ?_
      | refine .mk 30 (by decide +kernel) ?_
      | refine .mk 31 (by decide +kernel) ?_
      | refine .mk 32 (by decide +kernel) ?_
      | refine .mk 33 (by decide +kernel) ?_
      | refine .mk 34 (by decide +kernel) ?_
      | refine .mk 35 (by decide +kernel) ?_
      | refine .mk 36 (by decide +kernel) ?_
      | refine .mk 37 (by decide +kernel) ?_
      | refine .mk 38 (by decide +kernel) ?_
      | refine .mk 39 (by decide +kernel) ?_
      | refine .mk 40 (by decide +kernel) ?_
      | refine .mk 41 (by decide +kernel) ?_
    conv => whnf
    split
    rotate_left
    · rename_i h
      exact Bool.noConfusion ((q).symm.trans h)
    rename_i hN
    clear hN
    conv => whnf
    split
    rotate_left
    · rename_i h
      exact Bool.noConfusion ((q).symm.trans h)
    rename_i hN
    clear hN
    conv => whnf
    split
    · rename_i h
      exact absurd h (by simp)
    rename_i hN
    clear hN
    conv => whnf
    exact ⟨⟨k + 1, hkn⟩, ⟨⟨leV_int e2, leV_refl _, leV_refl _, leV_refl _, trivial⟩, trivial, rfl, rfl⟩, (by show n - (k + 1) < n - k; omega)⟩
  · have q : decide ((k : Int) < n) = false := decide_eq_false (by omega)
    conv => whnf
    split
    · rename_i h
      exact Bool.noConfusion ((q).symm.trans h)
    rename_i hN
    clear hN
    conv => whnf
    exact ⟨rfl, rfl⟩

theorem c_SameNil (up : List Ces) : Cs gl n_nacelleref03_SameTorques up [.nilS, .nilS] (.bool true) up := by
  refine mk h_nacelleref03_SameTorques rfl rfl ?_
  conv => whnf
  refine .mk (α := Unit) (fun _ => ⟨[(5, .int .i64 0), (0, .nilS), (1, .nilS), (4, .bool false)], [], up⟩) (fun _ => 0) () ⟨⟨leV_refl _, leV_refl _, leV_refl _, leV_refl _, trivial⟩, trivial, rfl, rfl⟩ ?_
  intro _
  conv => whnf
  exact ⟨rfl, rfl⟩

theorem forces_no (up : List Ces) (hr : gl g_rotor_roots = rootsI) (hp : gl g_internal_strconv_uint64pow10 = powI) (b : Bl) (f : Fl) (hs : lightB b f = false) (d : Int) :
    Cs gl n_nacellelaw03_RotorForces up [b.iv, f.iv, .int .i64 d] (.bool true) up := by
  refine mk h_nacellelaw03_RotorForces rfl rfl ?_
  have hS := fun up => c_light (gl := gl) up b f
  rw [hs] at hS
  have hA := fun up => c_awake (gl := gl) up hr hp
  conv => whnf
  repeat first
    | (show DRAW _ _ _ _ _; (first | refine .mk 0 (by decide +kernel) ?_ | refine .mk 1 (by decide +kernel) ?_ | refine .mk 2 (by decide +kernel) ?_ | refine .mk 3 (by decide +kernel) ?_ | refine .mk 4 (by decide +kernel) ?_ | refine .mk 5 (by decide +kernel) ?_ | refine .mk 6 (by decide +kernel) ?_ | refine .mk 7 (by decide +kernel) ?_ | refine .mk 8 (by decide +kernel) ?_ | refine .mk 9 (by decide +kernel) ?_ | refine .mk 10 (by decide +kernel) ?_ | refine .mk 11 (by decide +kernel) ?_ | refine .mk 12 (by decide +kernel) ?_ | refine .mk 13 (by decide +kernel) ?_ | refine .mk 14 (by decide +kernel) ?_ | refine .mk 15 (by decide +kernel) ?_ | refine .mk 16 (by decide +kernel) ?_ | refine .mk 17 (by decide +kernel) ?_ | refine .mk 18 (by decide +kernel) ?_ | refine .mk 19 (by decide +kernel) ?_ | refine .mk 20 (by decide +kernel) ?_ | refine .mk 21 (by decide +kernel) ?_ | refine .mk 22 (by decide +kernel) ?_ | refine .mk 23 (by decide +kernel) ?_ | refine .mk 24 (by decide +kernel) ?_ | refine .mk 25 (by decide +kernel) ?_ | refine .mk 26 (by decide +kernel) ?_ | refine .mk 27 (by decide +kernel) ?_ | refine .mk 28 (by decide +kernel) ?_ | refine .mk 29 (by decide +kernel) ?_ | refine .mk 30 (by decide +kernel) ?_ | refine .mk 31 (by decide +kernel) ?_ | refine .mk 32 (by decide +kernel) ?_ | refine .mk 33 (by decide +kernel) ?_ | refine .mk 34 (by decide +kernel) ?_ | refine .mk 35 (by decide +kernel) ?_ | refine .mk 36 (by decide +kernel) ?_ | refine .mk 37 (by decide +kernel) ?_ | refine .mk 38 (by decide +kernel) ?_ | refine .mk 39 (by decide +kernel) ?_ | refine .mk 40 (by decide +kernel) ?_ | refine .mk 41 (by decide +kernel) ?_); (conv => whnf))
    | (refine HOLD.mk (by first | exact trivial | exact ⟨⟨rfl, rfl⟩, trivial⟩ | exact ⟨⟨rfl, rfl⟩, ⟨rfl, rfl⟩, trivial⟩) ?_; (conv => whnf))
    | (refine CALL0.mk _ _ _ _ _ (leL_refl _) (hA ..) rfl ?_; conv => whnf)
    | (refine CALLQ.mk _ _ _ (leL_refl _) (hA ..) rfl ?_; conv => whnf)
    | (refine CALL0.mk _ _ _ _ _ (leL_refl _) (hS ..) rfl ?_; conv => whnf)
    | (refine CALLQ.mk _ _ _ (leL_refl _) (hS ..) rfl ?_; conv => whnf)
  exact ⟨rfl, rfl⟩

/-- What is read behind each call. -/
def lvForces : List (Nat × List Nat) := [(18, [2, 3, 4, 6, 7, 8, 9, 10, 11, 18]), (23, [2, 3, 4, 6, 7, 8, 9, 10, 11, 20, 23]), (26, [2, 3, 4, 6, 7, 8, 9, 10, 11, 26]), (29, [2, 3, 4, 6, 7, 8, 9, 10, 11, 29]), (32, [2, 3, 4, 6, 7, 8, 9, 10, 11, 32]), (37, [2, 3, 4, 6, 7, 8, 9, 10, 11, 37]), (40, [2, 3, 4, 6, 7, 8, 9, 10, 11, 40]), (45, [2, 3, 4, 6, 7, 8, 9, 10, 11, 45]), (48, [2, 3, 4, 6, 7, 8, 9, 10, 11, 48]), (52, [2, 3, 4, 6, 7, 8, 9, 10, 11, 12, 52]), (54, [2, 3, 4, 6, 7, 8, 9, 10, 11, 12, 52, 54]), (56, [2, 3, 4, 6, 7, 8, 9, 10, 11, 12, 52, 54, 56]), (58, [2, 3, 4, 6, 7, 8, 9, 10, 11, 12, 58]), (65, [2, 3, 4, 6, 7, 8, 9, 10, 11, 12, 13, 14, 15, 16, 17, 65]), (75, [6, 7, 8, 9, 10, 11, 12, 13, 14, 15, 16, 75]), (82, [6, 9, 10, 11, 12, 13, 15, 16, 82]), (88, [6, 11, 12, 13, 16, 83, 88]), (98, [6, 95, 98])]
set_option maxHeartbeats 8000000 in
theorem forces_bad (up : List Ces) (hr : gl g_rotor_roots = rootsI) (hp : gl g_internal_strconv_uint64pow10 = powI) (b : Bl) (f : Fl) (hs : lightB b f = true) (d E : Int) (hEE : E = allErr b f d) (zE : E ≠ 0) :
    Cs gl n_nacellelaw03_RotorForces up [b.iv, f.iv, .int .i64 d] (.bool true) up := by
  have hsh : b.short = true := by
    unfold lightB at hs
    simp only [Bool.and_eq_true] at hs
    exact hs.1
  obtain ⟨hl, hd, hn⟩ := short_le hsh
  have hS := fun up => c_light (gl := gl) up b f
  rw [hs] at hS
  have hA := fun up => c_awake (gl := gl) up hr hp
  have hb := fun up => c_blade (gl := gl) up b hl hd hn
  have hf3 := fun up => c_rfl3 (gl := gl) up b.err f.err (withinS d 1 12)
  have hE := fun up => c_rCheckBlade (gl := gl) up b
  have hFl := fun up => c_rCheckFlow (gl := gl) up f.w f.s f.p
  have hT := fun up => c_Thrust (gl := gl) up b f d
  have hM := fun up => c_Torque (gl := gl) up b f d
  have hR := fun up => c_Rings (gl := gl) up b f d
  have q : (E != 0) = true := by simpa using zE
  unfold allErr at hEE
  rw [← hEE] at hf3
  have e1 : ∀ φ, sumR b f d φ = .tup [.agg [.int .i64 0, .int .i64 0], .int .i64 E] := fun φ => by
    unfold sumR allErr
    rw [← hEE, q]; rfl
  have e2 : ringsR b f d = .tup [.nilS, .int .i64 E] := by
    unfold ringsR allErr
    rw [← hEE, q]; rfl
  rw [e1] at hT hM
  rw [e2] at hR
  have hsp := fun up => c_span (gl := gl) up 0 0 E E 0 0 rfl (fun _ => ⟨rfl, rfl⟩) (fun h => absurd h zE)
  have hST := fun up => c_SameNil (gl := gl) up
  refine mk h_nacellelaw03_RotorForces rfl rfl ?_
  conv => whnf
  repeat first
    | (show DRAW _ _ _ _ _; (first | refine .mk 0 (by decide +kernel) ?_ | refine .mk 1 (by decide +kernel) ?_ | refine .mk 2 (by decide +kernel) ?_ | refine .mk 3 (by decide +kernel) ?_ | refine .mk 4 (by decide +kernel) ?_ | refine .mk 5 (by decide +kernel) ?_ | refine .mk 6 (by decide +kernel) ?_ | refine .mk 7 (by decide +kernel) ?_ | refine .mk 8 (by decide +kernel) ?_ | refine .mk 9 (by decide +kernel) ?_ | refine .mk 10 (by decide +kernel) ?_ | refine .mk 11 (by decide +kernel) ?_ | refine .mk 12 (by decide +kernel) ?_ | refine .mk 13 (by decide +kernel) ?_ | refine .mk 14 (by decide +kernel) ?_ | refine .mk 15 (by decide +kernel) ?_ | refine .mk 16 (by decide +kernel) ?_ | refine .mk 17 (by decide +kernel) ?_ | refine .mk 18 (by decide +kernel) ?_ | refine .mk 19 (by decide +kernel) ?_ | refine .mk 20 (by decide +kernel) ?_ | refine .mk 21 (by decide +kernel) ?_ | refine .mk 22 (by decide +kernel) ?_ | refine .mk 23 (by decide +kernel) ?_ | refine .mk 24 (by decide +kernel) ?_ | refine .mk 25 (by decide +kernel) ?_ | refine .mk 26 (by decide +kernel) ?_ | refine .mk 27 (by decide +kernel) ?_ | refine .mk 28 (by decide +kernel) ?_ | refine .mk 29 (by decide +kernel) ?_ | refine .mk 30 (by decide +kernel) ?_ | refine .mk 31 (by decide +kernel) ?_ | refine .mk 32 (by decide +kernel) ?_ | refine .mk 33 (by decide +kernel) ?_ | refine .mk 34 (by decide +kernel) ?_ | refine .mk 35 (by decide +kernel) ?_ | refine .mk 36 (by decide +kernel) ?_ | refine .mk 37 (by decide +kernel) ?_ | refine .mk 38 (by decide +kernel) ?_ | refine .mk 39 (by decide +kernel) ?_ | refine .mk 40 (by decide +kernel) ?_ | refine .mk 41 (by decide +kernel) ?_); (conv => whnf))
    | (refine HOLD.mk (by first | exact trivial | exact ⟨⟨rfl, rfl⟩, trivial⟩ | exact ⟨⟨rfl, rfl⟩, ⟨rfl, rfl⟩, trivial⟩) ?_; (conv => whnf))
    | (refine CALL0.cutBy lvForces _ _ _ _ _ (leL_refl _) (hA ..) rfl ?_; conv => whnf)
    | (refine CALL0.mk _ _ _ _ _ (leL_refl _) (hA ..) rfl ?_; conv => whnf)
    | (refine CALLQ.mk _ _ _ (leL_refl _) (hA ..) rfl ?_; conv => whnf)
    | (refine CALL0.cutBy lvForces _ _ _ _ _ (leL_refl _) (hS ..) rfl ?_; conv => whnf)
    | (refine CALL0.mk _ _ _ _ _ (leL_refl _) (hS ..) rfl ?_; conv => whnf)
    | (refine CALLQ.mk _ _ _ (leL_refl _) (hS ..) rfl ?_; conv => whnf)
    | (refine CALL0.cutBy lvForces _ _ _ _ _ (leL_refl _) (hb ..) rfl ?_; conv => whnf)
    | (refine CALL0.mk _ _ _ _ _ (leL_refl _) (hb ..) rfl ?_; conv => whnf)
    | (refine CALLQ.mk _ _ _ (leL_refl _) (hb ..) rfl ?_; conv => whnf)
    | (refine CALL0.cutBy lvForces _ _ _ _ _ (leL_refl _) (hT ..) rfl ?_; conv => whnf)
    | (refine CALL0.mk _ _ _ _ _ (leL_refl _) (hT ..) rfl ?_; conv => whnf)
    | (refine CALLQ.mk _ _ _ (leL_refl _) (hT ..) rfl ?_; conv => whnf)
    | (refine CALL0.cutBy lvForces _ _ _ _ _ (leL_refl _) (hM ..) rfl ?_; conv => whnf)
    | (refine CALL0.mk _ _ _ _ _ (leL_refl _) (hM ..) rfl ?_; conv => whnf)
    | (refine CALLQ.mk _ _ _ (leL_refl _) (hM ..) rfl ?_; conv => whnf)
    | (refine CALL0.cutBy lvForces _ _ _ _ _ (leL_refl _) (hR ..) rfl ?_; conv => whnf)
    | (refine CALL0.mk _ _ _ _ _ (leL_refl _) (hR ..) rfl ?_; conv => whnf)
    | (refine CALLQ.mk _ _ _ (leL_refl _) (hR ..) rfl ?_; conv => whnf)
    | (refine CALL0.cutBy lvForces _ _ _ _ _ (leL_refl _) (hE ..) rfl ?_; conv => whnf)
    | (refine CALL0.mk _ _ _ _ _ (leL_refl _) (hE ..) rfl ?_; conv => whnf)
    | (refine CALLQ.mk _ _ _ (leL_refl _) (hE ..) rfl ?_; conv => whnf)
    | (refine CALL0.cutBy lvForces _ _ _ _ _ (leL_refl _) (hFl ..) rfl ?_; conv => whnf)
    | (refine CALL0.mk _ _ _ _ _ (leL_refl _) (hFl ..) rfl ?_; conv => whnf)
    | (refine CALLQ.mk _ _ _ (leL_refl _) (hFl ..) rfl ?_; conv => whnf)
    | (refine CALL0.cutBy lvForces _ _ _ _ _ (leL_refl _) (c_rCheckDepth ..) rfl ?_; conv => whnf)
    | (refine CALL0.mk _ _ _ _ _ (leL_refl _) (c_rCheckDepth ..) rfl ?_; conv => whnf)
    | (refine CALLQ.mk _ _ _ (leL_refl _) (c_rCheckDepth ..) rfl ?_; conv => whnf)
    | (refine CALL0.cutBy lvForces _ _ _ _ _ (leL_refl _) (hf3 ..) rfl ?_; conv => whnf)
    | (refine CALL0.mk _ _ _ _ _ (leL_refl _) (hf3 ..) rfl ?_; conv => whnf)
    | (refine CALLQ.mk _ _ _ (leL_refl _) (hf3 ..) rfl ?_; conv => whnf)
  split
  · rename_i h
    exact absurd h (by simp [zE])
  rename_i hN
  clear hN
  conv => whnf
  repeat first
    | (show DRAW _ _ _ _ _; (first | refine .mk 0 (by decide +kernel) ?_ | refine .mk 1 (by decide +kernel) ?_ | refine .mk 2 (by decide +kernel) ?_ | refine .mk 3 (by decide +kernel) ?_ | refine .mk 4 (by decide +kernel) ?_ | refine .mk 5 (by decide +kernel) ?_ | refine .mk 6 (by decide +kernel) ?_ | refine .mk 7 (by decide +kernel) ?_ | refine .mk 8 (by decide +kernel) ?_ | refine .mk 9 (by decide +kernel) ?_ | refine .mk 10 (by decide +kernel) ?_ | refine .mk 11 (by decide +kernel) ?_ | refine .mk 12 (by decide +kernel) ?_ | refine .mk 13 (by decide +kernel) ?_ | refine .mk 14 (by decide +kernel) ?_ | refine .mk 15 (by decide +kernel) ?_ | refine .mk 16 (by decide +kernel) ?_ | refine .mk 17 (by decide +kernel) ?_ | refine .mk 18 (by decide +kernel) ?_ | refine .mk 19 (by decide +kernel) ?_ | refine .mk 20 (by decide +kernel) ?_ | refine .mk 21 (by decide +kernel) ?_ | refine .mk 22 (by decide +kernel) ?_ | refine .mk 23 (by decide +kernel) ?_ | refine .mk 24 (by decide +kernel) ?_ | refine .mk 25 (by decide +kernel) ?_ | refine .mk 26 (by decide +kernel) ?_ | refine .mk 27 (by decide +kernel) ?_ | refine .mk 28 (by decide +kernel) ?_ | refine .mk 29 (by decide +kernel) ?_ | refine .mk 30 (by decide +kernel) ?_ | refine .mk 31 (by decide +kernel) ?_ | refine .mk 32 (by decide +kernel) ?_ | refine .mk 33 (by decide +kernel) ?_ | refine .mk 34 (by decide +kernel) ?_ | refine .mk 35 (by decide +kernel) ?_ | refine .mk 36 (by decide +kernel) ?_ | refine .mk 37 (by decide +kernel) ?_ | refine .mk 38 (by decide +kernel) ?_ | refine .mk 39 (by decide +kernel) ?_ | refine .mk 40 (by decide +kernel) ?_ | refine .mk 41 (by decide +kernel) ?_); (conv => whnf))
    | (refine HOLD.mk (by first | exact trivial | exact ⟨⟨rfl, rfl⟩, trivial⟩ | exact ⟨⟨rfl, rfl⟩, ⟨rfl, rfl⟩, trivial⟩) ?_; (conv => whnf))
    | (refine CALL0.cutBy lvForces _ _ _ _ _ (leL_refl _) (hsp ..) rfl ?_; conv => whnf)
    | (refine CALL0.mk _ _ _ _ _ (leL_refl _) (hsp ..) rfl ?_; conv => whnf)
    | (refine CALLQ.mk _ _ _ (leL_refl _) (hsp ..) rfl ?_; conv => whnf)
    | (refine CALL0.cutBy lvForces _ _ _ _ _ (leL_refl _) (hST ..) rfl ?_; conv => whnf)
    | (refine CALL0.mk _ _ _ _ _ (leL_refl _) (hST ..) rfl ?_; conv => whnf)
    | (refine CALLQ.mk _ _ _ (leL_refl _) (hST ..) rfl ?_; conv => whnf)
  have q2 : (E == E) = true := by simp
  split
  rotate_left
  · rename_i h
    exact Bool.noConfusion ((q2).symm.trans h)
  rename_i hN
  clear hN
  conv => whnf
  repeat first
    | (show DRAW _ _ _ _ _; (first | refine .mk 0 (by decide +kernel) ?_ | refine .mk 1 (by decide +kernel) ?_ | refine .mk 2 (by decide +kernel) ?_ | refine .mk 3 (by decide +kernel) ?_ | refine .mk 4 (by decide +kernel) ?_ | refine .mk 5 (by decide +kernel) ?_ | refine .mk 6 (by decide +kernel) ?_ | refine .mk 7 (by decide +kernel) ?_ | refine .mk 8 (by decide +kernel) ?_ | refine .mk 9 (by decide +kernel) ?_ | refine .mk 10 (by decide +kernel) ?_ | refine .mk 11 (by decide +kernel) ?_ | refine .mk 12 (by decide +kernel) ?_ | refine .mk 13 (by decide +kernel) ?_ | refine .mk 14 (by decide +kernel) ?_ | refine .mk 15 (by decide +kernel) ?_ | refine .mk 16 (by decide +kernel) ?_ | refine .mk 17 (by decide +kernel) ?_ | refine .mk 18 (by decide +kernel) ?_ | refine .mk 19 (by decide +kernel) ?_ | refine .mk 20 (by decide +kernel) ?_ | refine .mk 21 (by decide +kernel) ?_ | refine .mk 22 (by decide +kernel) ?_ | refine .mk 23 (by decide +kernel) ?_ | refine .mk 24 (by decide +kernel) ?_ | refine .mk 25 (by decide +kernel) ?_ | refine .mk 26 (by decide +kernel) ?_ | refine .mk 27 (by decide +kernel) ?_ | refine .mk 28 (by decide +kernel) ?_ | refine .mk 29 (by decide +kernel) ?_ | refine .mk 30 (by decide +kernel) ?_ | refine .mk 31 (by decide +kernel) ?_ | refine .mk 32 (by decide +kernel) ?_ | refine .mk 33 (by decide +kernel) ?_ | refine .mk 34 (by decide +kernel) ?_ | refine .mk 35 (by decide +kernel) ?_ | refine .mk 36 (by decide +kernel) ?_ | refine .mk 37 (by decide +kernel) ?_ | refine .mk 38 (by decide +kernel) ?_ | refine .mk 39 (by decide +kernel) ?_ | refine .mk 40 (by decide +kernel) ?_ | refine .mk 41 (by decide +kernel) ?_); (conv => whnf))
    | (refine HOLD.mk (by first | exact trivial | exact ⟨⟨rfl, rfl⟩, trivial⟩ | exact ⟨⟨rfl, rfl⟩, ⟨rfl, rfl⟩, trivial⟩) ?_; (conv => whnf))
    | (refine CALL0.cutBy lvForces _ _ _ _ _ (leL_refl _) (hsp ..) rfl ?_; conv => whnf)
    | (refine CALL0.mk _ _ _ _ _ (leL_refl _) (hsp ..) rfl ?_; conv => whnf)
    | (refine CALLQ.mk _ _ _ (leL_refl _) (hsp ..) rfl ?_; conv => whnf)
    | (refine CALL0.cutBy lvForces _ _ _ _ _ (leL_refl _) (hST ..) rfl ?_; conv => whnf)
    | (refine CALL0.mk _ _ _ _ _ (leL_refl _) (hST ..) rfl ?_; conv => whnf)
    | (refine CALLQ.mk _ _ _ (leL_refl _) (hST ..) rfl ?_; conv => whnf)
  repeat first
    | exact ⟨rfl, rfl⟩
    | (split; rotate_left; (rename_i hz; exact absurd hz (by simp [zE])); (conv => whnf))
    | exact ⟨by simp [zE], rfl⟩

set_option maxHeartbeats 8000000 in
theorem forces_none (up : List Ces) (hr : gl g_rotor_roots = rootsI) (hp : gl g_internal_strconv_uint64pow10 = powI) (b : Bl) (f : Fl) (hs : lightB b f = true) (d : Int) (D : Nat) (hD : D < 12) (hdD : d = ((D + 1 : Nat) : Int)) (g : Good b f) (hall : ¬ allBr b f 0) :
    Cs gl n_nacellelaw03_RotorForces up [b.iv, f.iv, .int .i64 d] (.bool true) up := by
  have hsh : b.short = true := by
    unfold lightB at hs
    simp only [Bool.and_eq_true] at hs
    exact hs.1
  obtain ⟨hl, hd, hn⟩ := short_le hsh
  have hS := fun up => c_light (gl := gl) up b f
  rw [hs] at hS
  have hA := fun up => c_awake (gl := gl) up hr hp
  have hb := fun up => c_blade (gl := gl) up b hl hd hn
  have hf3 := fun up => c_rfl3 (gl := gl) up b.err f.err (withinS d 1 12)
  have hE := fun up => c_rCheckBlade (gl := gl) up b
  have hFl := fun up => c_rCheckFlow (gl := gl) up f.w f.s f.p
  have hT := fun up => c_Thrust (gl := gl) up b f d
  have hM := fun up => c_Torque (gl := gl) up b f d
  have hR := fun up => c_Rings (gl := gl) up b f d
  have hEE := allErr_zero g hD
  rw [← hdD] at hEE
  unfold allErr at hEE
  rw [hEE] at hf3
  have e1 := torR_ok g hD
  have e2 := thrR_ok g hD
  have e3 : ringsR b f d = .tup [.nilS, .int .i64 7] := by
    unfold ringsR allErr
    rw [hEE, hdD, show (((D + 1 : Nat) : Int) - 1).toNat = D by omega, if_neg (fun q => hall ((allBr_iff 0 D).2 q))]; rfl
  rw [if_neg hall, ← hdD] at e1 e2
  rw [e2] at hT
  rw [e1] at hM
  rw [e3] at hR
  have hAl := fun up => c_rAll (gl := gl) up b f g D hD
  rw [if_neg hall, ← hdD] at hAl
  have hsp := fun up => c_span (gl := gl) up 0 0 7 7 0 0 rfl (fun _ => ⟨rfl, rfl⟩) (fun h => by omega)
  have hST := fun up => c_SameNil (gl := gl) up
  refine mk h_nacellelaw03_RotorForces rfl rfl ?_
  conv => whnf
  repeat first
    | (show DRAW _ _ _ _ _; (first | refine .mk 0 (by decide +kernel) ?_ | refine .mk 1 (by decide +kernel) ?_ | refine .mk 2 (by decide +kernel) ?_ | refine .mk 3 (by decide +kernel) ?_ | refine .mk 4 (by decide +kernel) ?_ | refine .mk 5 (by decide +kernel) ?_ | refine .mk 6 (by decide +kernel) ?_ | refine .mk 7 (by decide +kernel) ?_ | refine .mk 8 (by decide +kernel) ?_ | refine .mk 9 (by decide +kernel) ?_ | refine .mk 10 (by decide +kernel) ?_ | refine .mk 11 (by decide +kernel) ?_ | refine .mk 12 (by decide +kernel) ?_ | refine .mk 13 (by decide +kernel) ?_ | refine .mk 14 (by decide +kernel) ?_ | refine .mk 15 (by decide +kernel) ?_ | refine .mk 16 (by decide +kernel) ?_ | refine .mk 17 (by decide +kernel) ?_ | refine .mk 18 (by decide +kernel) ?_ | refine .mk 19 (by decide +kernel) ?_ | refine .mk 20 (by decide +kernel) ?_ | refine .mk 21 (by decide +kernel) ?_ | refine .mk 22 (by decide +kernel) ?_ | refine .mk 23 (by decide +kernel) ?_ | refine .mk 24 (by decide +kernel) ?_ | refine .mk 25 (by decide +kernel) ?_ | refine .mk 26 (by decide +kernel) ?_ | refine .mk 27 (by decide +kernel) ?_ | refine .mk 28 (by decide +kernel) ?_ | refine .mk 29 (by decide +kernel) ?_ | refine .mk 30 (by decide +kernel) ?_ | refine .mk 31 (by decide +kernel) ?_ | refine .mk 32 (by decide +kernel) ?_ | refine .mk 33 (by decide +kernel) ?_ | refine .mk 34 (by decide +kernel) ?_ | refine .mk 35 (by decide +kernel) ?_ | refine .mk 36 (by decide +kernel) ?_ | refine .mk 37 (by decide +kernel) ?_ | refine .mk 38 (by decide +kernel) ?_ | refine .mk 39 (by decide +kernel) ?_ | refine .mk 40 (by decide +kernel) ?_ | refine .mk 41 (by decide +kernel) ?_); (conv => whnf))
    | (refine HOLD.mk (by first | exact trivial | exact ⟨⟨rfl, rfl⟩, trivial⟩ | exact ⟨⟨rfl, rfl⟩, ⟨rfl, rfl⟩, trivial⟩) ?_; (conv => whnf))
    | (refine CALL0.cutBy lvForces _ _ _ _ _ (leL_refl _) (hA ..) rfl ?_; conv => whnf)
    | (refine CALL0.mk _ _ _ _ _ (leL_refl _) (hA ..) rfl ?_; conv => whnf)
    | (refine CALLQ.mk _ _ _ (leL_refl _) (hA ..) rfl ?_; conv => whnf)
    | (refine CALL0.cutBy lvForces _ _ _ _ _ (leL_refl _) (hS ..) rfl ?_; conv => whnf)
    | (refine CALL0.mk _ _ _ _ _ (leL_refl _) (hS ..) rfl ?_; conv => whnf)
    | (refine CALLQ.mk _ _ _ (leL_refl _) (hS ..) rfl ?_; conv => whnf)
    | (refine CALL0.cutBy lvForces _ _ _ _ _ (leL_refl _) (hb ..) rfl ?_; conv => whnf)
    | (refine CALL0.mk _ _ _ _ _ (leL_refl _) (hb ..) rfl ?_; conv => whnf)
    | (refine CALLQ.mk _ _ _ (leL_refl _) (hb ..) rfl ?_; conv => whnf)
    | (refine CALL0.cutBy lvForces _ _ _ _ _ (leL_refl _) (hT ..) rfl ?_; conv => whnf)
    | (refine CALL0.mk _ _ _ _ _ (leL_refl _) (hT ..) rfl ?_; conv => whnf)
    | (refine CALLQ.mk _ _ _ (leL_refl _) (hT ..) rfl ?_; conv => whnf)
    | (refine CALL0.cutBy lvForces _ _ _ _ _ (leL_refl _) (hM ..) rfl ?_; conv => whnf)
    | (refine CALL0.mk _ _ _ _ _ (leL_refl _) (hM ..) rfl ?_; conv => whnf)
    | (refine CALLQ.mk _ _ _ (leL_refl _) (hM ..) rfl ?_; conv => whnf)
    | (refine CALL0.cutBy lvForces _ _ _ _ _ (leL_refl _) (hR ..) rfl ?_; conv => whnf)
    | (refine CALL0.mk _ _ _ _ _ (leL_refl _) (hR ..) rfl ?_; conv => whnf)
    | (refine CALLQ.mk _ _ _ (leL_refl _) (hR ..) rfl ?_; conv => whnf)
    | (refine CALL0.cutBy lvForces _ _ _ _ _ (leL_refl _) (hE ..) rfl ?_; conv => whnf)
    | (refine CALL0.mk _ _ _ _ _ (leL_refl _) (hE ..) rfl ?_; conv => whnf)
    | (refine CALLQ.mk _ _ _ (leL_refl _) (hE ..) rfl ?_; conv => whnf)
    | (refine CALL0.cutBy lvForces _ _ _ _ _ (leL_refl _) (hFl ..) rfl ?_; conv => whnf)
    | (refine CALL0.mk _ _ _ _ _ (leL_refl _) (hFl ..) rfl ?_; conv => whnf)
    | (refine CALLQ.mk _ _ _ (leL_refl _) (hFl ..) rfl ?_; conv => whnf)
    | (refine CALL0.cutBy lvForces _ _ _ _ _ (leL_refl _) (c_rCheckDepth ..) rfl ?_; conv => whnf)
    | (refine CALL0.mk _ _ _ _ _ (leL_refl _) (c_rCheckDepth ..) rfl ?_; conv => whnf)
    | (refine CALLQ.mk _ _ _ (leL_refl _) (c_rCheckDepth ..) rfl ?_; conv => whnf)
    | (refine CALL0.cutBy lvForces _ _ _ _ _ (leL_refl _) (hf3 ..) rfl ?_; conv => whnf)
    | (refine CALL0.mk _ _ _ _ _ (leL_refl _) (hf3 ..) rfl ?_; conv => whnf)
    | (refine CALLQ.mk _ _ _ (leL_refl _) (hf3 ..) rfl ?_; conv => whnf)
    | (refine CALL0.cutBy lvForces _ _ _ _ _ (leL_refl _) (hAl ..) rfl ?_; conv => whnf)
    | (refine CALL0.mk _ _ _ _ _ (leL_refl _) (hAl ..) rfl ?_; conv => whnf)
    | (refine CALLQ.mk _ _ _ (leL_refl _) (hAl ..) rfl ?_; conv => whnf)
    | (refine CALL0.cutBy lvForces _ _ _ _ _ (leL_refl _) (hsp ..) rfl ?_; conv => whnf)
    | (refine CALL0.mk _ _ _ _ _ (leL_refl _) (hsp ..) rfl ?_; conv => whnf)
    | (refine CALLQ.mk _ _ _ (leL_refl _) (hsp ..) rfl ?_; conv => whnf)
    | (refine CALL0.cutBy lvForces _ _ _ _ _ (leL_refl _) (hST ..) rfl ?_; conv => whnf)
    | (refine CALL0.mk _ _ _ _ _ (leL_refl _) (hST ..) rfl ?_; conv => whnf)
    | (refine CALLQ.mk _ _ _ (leL_refl _) (hST ..) rfl ?_; conv => whnf)
  repeat first
    | exact ⟨rfl, rfl⟩
    | (split; rotate_left; (rename_i hz; exact absurd hz (by simp)); (conv => whnf))
    | exact ⟨by simp, rfl⟩

set_option maxHeartbeats 8000000 in
theorem forces_all (up : List Ces) (hr : gl g_rotor_roots = rootsI) (hp : gl g_internal_strconv_uint64pow10 = powI) (b : Bl) (f : Fl) (hs : lightB b f = true) (d : Int) (D : Nat) (hD : D < 12) (hdD : d = ((D + 1 : Nat) : Int)) (g : Good b f) (hall : allBr b f 0) :
    Cs gl n_nacellelaw03_RotorForces up [b.iv, f.iv, .int .i64 d] (.bool true) up := by
  have hsh : b.short = true := by
    unfold lightB at hs
    simp only [Bool.and_eq_true] at hs
    exact hs.1
  obtain ⟨hl, hd, hn⟩ := short_le hsh
  have hS := fun up => c_light (gl := gl) up b f
  rw [hs] at hS
  have hA := fun up => c_awake (gl := gl) up hr hp
  have hb := fun up => c_blade (gl := gl) up b hl hd hn
  have hf3 := fun up => c_rfl3 (gl := gl) up b.err f.err (withinS d 1 12)
  have hE := fun up => c_rCheckBlade (gl := gl) up b
  have hFl := fun up => c_rCheckFlow (gl := gl) up f.w f.s f.p
  have hT := fun up => c_Thrust (gl := gl) up b f d
  have hM := fun up => c_Torque (gl := gl) up b f d
  have hR := fun up => c_Rings (gl := gl) up b f d
  have hEE := allErr_zero g hD
  rw [← hdD] at hEE
  unfold allErr at hEE
  rw [hEE] at hf3
  have e1 := torR_ok g hD
  have e2 := thrR_ok g hD
  have e3 : ringsR b f d = .tup [.lst (some 19) 2 b.nr (b.tl f D), .int .i64 0] := by
    unfold ringsR allErr
    rw [hEE, hdD, show (((D + 1 : Nat) : Int) - 1).toNat = D by omega, if_pos ((allBr_iff 0 D).1 hall)]; rfl
  rw [if_pos hall, ← hdD] at e1 e2
  rw [e2] at hT
  rw [e1] at hM
  rw [e3] at hR
  have hAl := fun up => c_rAll (gl := gl) up b f g D hD
  rw [if_pos hall, ← hdD] at hAl
  have hRi := fun up => c_rRings (gl := gl) up b f g D hD
  rw [if_pos hall, ← hdD] at hRi
  obtain ⟨T1, hT1⟩ : ∃ x, x = (b.T f D).1 := ⟨_, rfl⟩
  obtain ⟨T2, hT2⟩ : ∃ x, x = (b.T f D).2 := ⟨_, rfl⟩
  obtain ⟨F1, hF1⟩ : ∃ x, x = (b.F f D).1 := ⟨_, rfl⟩
  obtain ⟨F2, hF2⟩ : ∃ x, x = (b.F f D).2 := ⟨_, rfl⟩
  rw [← hT1, ← hT2] at hM
  rw [← hF1, ← hF2] at hT
  rw [← hT1, ← hT2, ← hF1, ← hF2] at hAl
  have hsp1 := fun up => c_span (gl := gl) up F1 F2 0 0 F1 F2 rfl (fun h => absurd rfl h) (fun _ => ⟨rfl, rfl⟩)
  have hsp2 := fun up => c_span (gl := gl) up T1 T2 0 0 T1 T2 rfl (fun h => absurd rfl h) (fun _ => ⟨rfl, rfl⟩)
  have hST := fun up => c_SameTorques (gl := gl) up b.nr hn (fun i => (b.tor f i (b.at f i D) (D + 1)).1) (fun i => (b.tor f i (b.at f i D) (D + 1)).2)
  refine mk h_nacellelaw03_RotorForces rfl rfl ?_
  conv => whnf
  repeat first
    | (show DRAW _ _ _ _ _; (first | refine .mk 0 (by decide +kernel) ?_ | refine .mk 1 (by decide +kernel) ?_ | refine .mk 2 (by decide +kernel) ?_ | refine .mk 3 (by decide +kernel) ?_ | refine .mk 4 (by decide +kernel) ?_ | refine .mk 5 (by decide +kernel) ?_ | refine .mk 6 (by decide +kernel) ?_ | refine .mk 7 (by decide +kernel) ?_ | refine .mk 8 (by decide +kernel) ?_ | refine .mk 9 (by decide +kernel) ?_ | refine .mk 10 (by decide +kernel) ?_ | refine .mk 11 (by decide +kernel) ?_ | refine .mk 12 (by decide +kernel) ?_ | refine .mk 13 (by decide +kernel) ?_ | refine .mk 14 (by decide +kernel) ?_ | refine .mk 15 (by decide +kernel) ?_ | refine .mk 16 (by decide +kernel) ?_ | refine .mk 17 (by decide +kernel) ?_ | refine .mk 18 (by decide +kernel) ?_ | refine .mk 19 (by decide +kernel) ?_ | refine .mk 20 (by decide +kernel) ?_ | refine .mk 21 (by decide +kernel) ?_ | refine .mk 22 (by decide +kernel) ?_ | refine .mk 23 (by decide +kernel) ?_ | refine .mk 24 (by decide +kernel) ?_ | refine .mk 25 (by decide +kernel) ?_ | refine .mk 26 (by decide +kernel) ?_ | refine .mk 27 (by decide +kernel) ?_ | refine .mk 28 (by decide +kernel) ?_ | refine .mk 29 (by decide +kernel) ?_ | refine .mk 30 (by decide +kernel) ?_ | refine .mk 31 (by decide +kernel) ?_ | refine .mk 32 (by decide +kernel) ?_ | refine .mk 33 (by decide +kernel) ?_ | refine .mk 34 (by decide +kernel) ?_ | refine .mk 35 (by decide +kernel) ?_ | refine .mk 36 (by decide +kernel) ?_ | refine .mk 37 (by decide +kernel) ?_ | refine .mk 38 (by decide +kernel) ?_ | refine .mk 39 (by decide +kernel) ?_ | refine .mk 40 (by decide +kernel) ?_ | refine .mk 41 (by decide +kernel) ?_); (conv => whnf))
    | (refine HOLD.mk (by first | exact trivial | exact ⟨⟨rfl, rfl⟩, trivial⟩ | exact ⟨⟨rfl, rfl⟩, ⟨rfl, rfl⟩, trivial⟩) ?_; (conv => whnf))
    | (refine CALL0.cutBy lvForces _ _ _ _ _ (leL_refl _) (hA ..) rfl ?_; conv => whnf)
    | (refine CALL0.mk _ _ _ _ _ (leL_refl _) (hA ..) rfl ?_; conv => whnf)
    | (refine CALLQ.mk _ _ _ (leL_refl _) (hA ..) rfl ?_; conv => whnf)
    | (refine CALL0.cutBy lvForces _ _ _ _ _ (leL_refl _) (hS ..) rfl ?_; conv => whnf)
    | (refine CALL0.mk _ _ _ _ _ (leL_refl _) (hS ..) rfl ?_; conv => whnf)
    | (refine CALLQ.mk _ _ _ (leL_refl _) (hS ..) rfl ?_; conv => whnf)
    | (refine CALL0.cutBy lvForces _ _ _ _ _ (leL_refl _) (hb ..) rfl ?_; conv => whnf)
    | (refine CALL0.mk _ _ _ _ _ (leL_refl _) (hb ..) rfl ?_; conv => whnf)
    | (refine CALLQ.mk _ _ _ (leL_refl _) (hb ..) rfl ?_; conv => whnf)
    | (refine CALL0.cutBy lvForces _ _ _ _ _ (leL_refl _) (hT ..) rfl ?_; conv => whnf)
    | (refine CALL0.mk _ _ _ _ _ (leL_refl _) (hT ..) rfl ?_; conv => whnf)
    | (refine CALLQ.mk _ _ _ (leL_refl _) (hT ..) rfl ?_; conv => whnf)
    | (refine CALL0.cutBy lvForces _ _ _ _ _ (leL_refl _) (hM ..) rfl ?_; conv => whnf)
    | (refine CALL0.mk _ _ _ _ _ (leL_refl _) (hM ..) rfl ?_; conv => whnf)
    | (refine CALLQ.mk _ _ _ (leL_refl _) (hM ..) rfl ?_; conv => whnf)
    | (refine CALL0.cutBy lvForces _ _ _ _ _ (leL_refl _) (hR ..) rfl ?_; conv => whnf)
    | (refine CALL0.mk _ _ _ _ _ (leL_refl _) (hR ..) rfl ?_; conv => whnf)
    | (refine CALLQ.mk _ _ _ (leL_refl _) (hR ..) rfl ?_; conv => whnf)
    | (refine CALL0.cutBy lvForces _ _ _ _ _ (leL_refl _) (hE ..) rfl ?_; conv => whnf)
    | (refine CALL0.mk _ _ _ _ _ (leL_refl _) (hE ..) rfl ?_; conv => whnf)
    | (refine CALLQ.mk _ _ _ (leL_refl _) (hE ..) rfl ?_; conv => whnf)
    | (refine CALL0.cutBy lvForces _ _ _ _ _ (leL_refl _) (hFl ..) rfl ?_; conv => whnf)
    | (refine CALL0.mk _ _ _ _ _ (leL_refl _) (hFl ..) rfl ?_; conv => whnf)
    | (refine CALLQ.mk _ _ _ (leL_refl _) (hFl ..) rfl ?_; conv => whnf)
    | (refine CALL0.cutBy lvForces _ _ _ _ _ (leL_refl _) (c_rCheckDepth ..) rfl ?_; conv => whnf)
    | (refine CALL0.mk _ _ _ _ _ (leL_refl _) (c_rCheckDepth ..) rfl ?_; conv => whnf)
    | (refine CALLQ.mk _ _ _ (leL_refl _) (c_rCheckDepth ..) rfl ?_; conv => whnf)
    | (refine CALL0.cutBy lvForces _ _ _ _ _ (leL_refl _) (hf3 ..) rfl ?_; conv => whnf)
    | (refine CALL0.mk _ _ _ _ _ (leL_refl _) (hf3 ..) rfl ?_; conv => whnf)
    | (refine CALLQ.mk _ _ _ (leL_refl _) (hf3 ..) rfl ?_; conv => whnf)
    | (refine CALL0.cutBy lvForces _ _ _ _ _ (leL_refl _) (hAl ..) rfl ?_; conv => whnf)
    | (refine CALL0.mk _ _ _ _ _ (leL_refl _) (hAl ..) rfl ?_; conv => whnf)
    | (refine CALLQ.mk _ _ _ (leL_refl _) (hAl ..) rfl ?_; conv => whnf)
    | (refine CALL0.cutBy lvForces _ _ _ _ _ (leL_refl _) (hRi ..) rfl ?_; conv => whnf)
    | (refine CALL0.mk _ _ _ _ _ (leL_refl _) (hRi ..) rfl ?_; conv => whnf)
    | (refine CALLQ.mk _ _ _ (leL_refl _) (hRi ..) rfl ?_; conv => whnf)
    | (refine CALL0.cutBy lvForces _ _ _ _ _ (leL_refl _) (hsp1 ..) rfl ?_; conv => whnf)
    | (refine CALL0.mk _ _ _ _ _ (leL_refl _) (hsp1 ..) rfl ?_; conv => whnf)
    | (refine CALLQ.mk _ _ _ (leL_refl _) (hsp1 ..) rfl ?_; conv => whnf)
    | (refine CALL0.cutBy lvForces _ _ _ _ _ (leL_refl _) (hsp2 ..) rfl ?_; conv => whnf)
    | (refine CALL0.mk _ _ _ _ _ (leL_refl _) (hsp2 ..) rfl ?_; conv => whnf)
    | (refine CALLQ.mk _ _ _ (leL_refl _) (hsp2 ..) rfl ?_; conv => whnf)
    | (refine CALL0.cutBy lvForces _ _ _ _ _ (leL_refl _) (hST ..) rfl ?_; conv => whnf)
    | (refine CALL0.mk _ _ _ _ _ (leL_refl _) (hST ..) rfl ?_; conv => whnf)
    | (refine CALLQ.mk _ _ _ (leL_refl _) (hST ..) rfl ?_; conv => whnf)
  repeat first
    | exact ⟨rfl, rfl⟩
    | (split; rotate_left; (rename_i hz; exact absurd hz (by simp)); (conv => whnf))
    | exact ⟨by simp, rfl⟩

theorem c_RotorForces (up : List Ces) (hr : gl g_rotor_roots = rootsI) (hp : gl g_internal_strconv_uint64pow10 = powI) (b : Bl) (f : Fl) (d : Int) :
    Cs gl n_nacellelaw03_RotorForces up [b.iv, f.iv, .int .i64 d] (.bool true) up := by
  cases hs : lightB b f with
  | false => exact forces_no up hr hp b f hs d
  | true =>
  by_cases zE : allErr b f d = 0
  · obtain ⟨ge, gf, D, hdD, hD⟩ := allErr_ok zE
    by_cases hall : allBr b f 0
    · exact forces_all up hr hp b f hs d D hD hdD ⟨ge, gf⟩ hall
    · exact forces_none up hr hp b f hs d D hD hdD ⟨ge, gf⟩ hall
  · exact forces_bad up hr hp b f hs d _ rfl zE
end Go.Proofs.YtllmejkmogepjaaGreatDoor.Ix
