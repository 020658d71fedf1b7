/-
  Rz1: contracts of the reference's search for brackets.
-/
import Derived.Test.YtllmejkmogepjaaGreatDoorM5
namespace Go.Proofs.YtllmejkmogepjaaGreatDoor.Ix
open Go.Proofs
set_option maxRecDepth 100000
set_option linter.unusedVariables false
set_option linter.unusedSimpArgs false
variable {gl : Nat → IV}

theorem isBr_iff' {b : Bl} {f : Fl} {i D : Nat} (ok : b.ok f i) {a : Int} (h0 : 0 ≤ a) : isBr b f i a (D + 1) = true ↔ b.br f i D = some a := by
  unfold isBr
  simp only [Bool.and_eq_true, decide_eq_true_eq]
  constructor
  · intro h; exact (brP_some ok).2 ⟨h0, by simpa using h.1, h.2.1, h.2.2⟩
  · intro h
    obtain ⟨_, h1, h2, h3⟩ := (brP_some ok).1 h
    exact ⟨by simpa using h1, h2, h3⟩

theorem c_rIsBracket (up : List Ces) (b : Bl) (f : Fl) (i : Nat) (h : b.ok f i) (a : Int) (d : Nat) (hd1 : 1 ≤ d) (hd : d ≤ 12) (h0 : 0 ≤ a) (h1 : a ≤ 2 ^ (d - 1)) :
    Cs gl n_nacelleref03_IsBracket up [polarI b, ringI b i, f.iv, .agg [.int .i64 a, .int .i64 d]] (.bool (isBr b f i a d)) up := by
  have hp := pow_half hd1
  have hq := two_pos (d - 1)
  have hl := pow_le12 (d := d - 1) (by omega)
  have e : w64 ((d : Int) - 1) = ((d - 1 : Nat) : Int) := by rw [w64, wrap_in] <;> omega
  have e1 : w64 (a + 1) = a + 1 := by rw [w64, wrap_in] <;> omega
  have hP := fun up => c_power (gl := gl) up (d - 1) (by omega)
  rw [← e] at hP
  have hB1 := fun up => c_rBalance (gl := gl) up b f i h a d hd h0 (by omega)
  unfold isBr
  by_cases ha : a < 2 ^ (d - 1)
  · have hB2 := fun up => c_rBalance (gl := gl) up b f i h (a + 1) d hd (by omega) (by omega)
    rw [← e1] at hB2
    have q1 : decide (a ≥ 2 ^ (d - 1)) = false := decide_eq_false (by omega)
    rw [decide_eq_true ha]
    refine mk h_nacelleref03_IsBracket rfl rfl ?_
    conv => whnf
    repeat first
      | (show DRAW _ _ _ _ _; (first | refine .mk 0 (by decide +kernel) ?_ | refine .mk 1 (by decide +kernel) ?_ | refine .mk 2 (by decide +kernel) ?_ | refine .mk 3 (by decide +kernel) ?_ | refine .mk 4 (by decide +kernel) ?_ | refine .mk 5 (by decide +kernel) ?_ | refine .mk 6 (by decide +kernel) ?_ | refine .mk 7 (by decide +kernel) ?_ | refine .mk 8 (by decide +kernel) ?_ | refine .mk 9 (by decide +kernel) ?_ | refine .mk 10 (by decide +kernel) ?_ | refine .mk 11 (by decide +kernel) ?_ | refine .mk 12 (by decide +kernel) ?_ | refine .mk 13 (by decide +kernel) ?_ | refine .mk 14 (by decide +kernel) ?_ | refine .mk 15 (by decide +kernel) ?_ | refine .mk 16 (by decide +kernel) ?_ | refine .mk 17 (by decide +kernel) ?_ | refine .mk 18 (by decide +kernel) ?_ | refine .mk 19 (by decide +kernel) ?_ | refine .mk 20 (by decide +kernel) ?_ | refine .mk 21 (by decide +kernel) ?_ | refine .mk 22 (by decide +kernel) ?_ | refine .mk 23 (by decide +kernel) ?_ | refine .mk 24 (by decide +kernel) ?_ | refine .mk 25 (by decide +kernel) ?_ | refine .mk 26 (by decide +kernel) ?_ | refine .mk 27 (by decide +kernel) ?_ | refine .mk 28 (by decide +kernel) ?_ | refine .mk 29 (by decide +kernel) ?_ | refine .mk 30 (by decide +kernel) ?_ | refine .mk 31 (by decide +kernel) ?_ | refine .mk 32 (by decide +kernel) ?_ | refine .mk 33 (by decide +kernel) ?_ | refine .mk 34 (by decide +kernel) ?_ | refine .mk 35 (by decide +kernel) ?_ | refine .mk 36 (by decide +kernel) ?_ | refine .mk 37 (by decide +kernel) ?_ | refine .mk 38 (by decide +kernel) ?_ | refine .mk 39 (by decide +kernel) ?_ | refine .mk 40 (by decide +kernel) ?_ | refine .mk 41 (by decide +kernel) ?_); (conv => whnf))
      | (refine HOLD.mk (by first | exact trivial | exact ⟨⟨rfl, rfl⟩, trivial⟩ | exact ⟨⟨rfl, rfl⟩, ⟨rfl, rfl⟩, trivial⟩) ?_; (conv => whnf))
      | (refine CALL0.mk _ _ _ _ _ (leL_refl _) (hP ..) rfl ?_; conv => whnf)
      | (refine CALLQ.mk _ _ _ (leL_refl _) (hP ..) rfl ?_; conv => whnf)
    split
    · rename_i h
      exact Bool.noConfusion ((q1).symm.trans h)
    rename_i hN
    clear hN
    conv => whnf
    repeat first
      | (show DRAW _ _ _ _ _; (first | refine .mk 0 (by decide +kernel) ?_ | refine .mk 1 (by decide +kernel) ?_ | refine .mk 2 (by decide +kernel) ?_ | refine .mk 3 (by decide +kernel) ?_ | refine .mk 4 (by decide +kernel) ?_ | refine .mk 5 (by decide +kernel) ?_ | refine .mk 6 (by decide +kernel) ?_ | refine .mk 7 (by decide +kernel) ?_ | refine .mk 8 (by decide +kernel) ?_ | refine .mk 9 (by decide +kernel) ?_ | refine .mk 10 (by decide +kernel) ?_ | refine .mk 11 (by decide +kernel) ?_ | refine .mk 12 (by decide +kernel) ?_ | refine .mk 13 (by decide +kernel) ?_ | refine .mk 14 (by decide +kernel) ?_ | refine .mk 15 (by decide +kernel) ?_ | refine .mk 16 (by decide +kernel) ?_ | refine .mk 17 (by decide +kernel) ?_ | refine .mk 18 (by decide +kernel) ?_ | refine .mk 19 (by decide +kernel) ?_ | refine .mk 20 (by decide +kernel) ?_ | refine .mk 21 (by decide +kernel) ?_ | refine .mk 22 (by decide +kernel) ?_ | refine .mk 23 (by decide +kernel) ?_ | refine .mk 24 (by decide +kernel) ?_ | refine .mk 25 (by decide +kernel) ?_ | refine .mk 26 (by decide +kernel) ?_ | refine .mk 27 (by decide +kernel) ?_ | refine .mk 28 (by decide +kernel) ?_ | refine .mk 29 (by decide +kernel) ?_ | refine .mk 30 (by decide +kernel) ?_ | refine .mk 31 (by decide +kernel) ?_ | refine .mk 32 (by decide +kernel) ?_ | refine .mk 33 (by decide +kernel) ?_ | refine .mk 34 (by decide +kernel) ?_ | refine .mk 35 (by decide +kernel) ?_ | refine .mk 36 (by decide +kernel) ?_ | refine .mk 37 (by decide +kernel) ?_ | refine .mk 38 (by decide +kernel) ?_ | refine .mk 39 (by decide +kernel) ?_ | refine .mk 40 (by decide +kernel) ?_ | refine .mk 41 (by decide +kernel) ?_); (conv => whnf))
      | (refine HOLD.mk (by first | exact trivial | exact ⟨⟨rfl, rfl⟩, trivial⟩ | exact ⟨⟨rfl, rfl⟩, ⟨rfl, rfl⟩, trivial⟩) ?_; (conv => whnf))
      | (refine CALL0.mk _ _ _ _ _ (leL_refl _) (hB1 ..) rfl ?_; conv => whnf)
      | (refine CALLQ.mk _ _ _ (leL_refl _) (hB1 ..) rfl ?_; conv => whnf)
    split
    · rename_i h2
      have h2 : decide (b.bal f i a d ≤ 0) = true := h2
      conv => whnf
      repeat first
        | (show DRAW _ _ _ _ _; (first | refine .mk 0 (by decide +kernel) ?_ | refine .mk 1 (by decide +kernel) ?_ | refine .mk 2 (by decide +kernel) ?_ | refine .mk 3 (by decide +kernel) ?_ | refine .mk 4 (by decide +kernel) ?_ | refine .mk 5 (by decide +kernel) ?_ | refine .mk 6 (by decide +kernel) ?_ | refine .mk 7 (by decide +kernel) ?_ | refine .mk 8 (by decide +kernel) ?_ | refine .mk 9 (by decide +kernel) ?_ | refine .mk 10 (by decide +kernel) ?_ | refine .mk 11 (by decide +kernel) ?_ | refine .mk 12 (by decide +kernel) ?_ | refine .mk 13 (by decide +kernel) ?_ | refine .mk 14 (by decide +kernel) ?_ | refine .mk 15 (by decide +kernel) ?_ | refine .mk 16 (by decide +kernel) ?_ | refine .mk 17 (by decide +kernel) ?_ | refine .mk 18 (by decide +kernel) ?_ | refine .mk 19 (by decide +kernel) ?_ | refine .mk 20 (by decide +kernel) ?_ | refine .mk 21 (by decide +kernel) ?_ | refine .mk 22 (by decide +kernel) ?_ | refine .mk 23 (by decide +kernel) ?_ | refine .mk 24 (by decide +kernel) ?_ | refine .mk 25 (by decide +kernel) ?_ | refine .mk 26 (by decide +kernel) ?_ | refine .mk 27 (by decide +kernel) ?_ | refine .mk 28 (by decide +kernel) ?_ | refine .mk 29 (by decide +kernel) ?_ | refine .mk 30 (by decide +kernel) ?_ | refine .mk 31 (by decide +kernel) ?_ | refine .mk 32 (by decide +kernel) ?_ | refine .mk 33 (by decide +kernel) ?_ | refine .mk 34 (by decide +kernel) ?_ | refine .mk 35 (by decide +kernel) ?_ | refine .mk 36 (by decide +kernel) ?_ | refine .mk 37 (by decide +kernel) ?_ | refine .mk 38 (by decide +kernel) ?_ | refine .mk 39 (by decide +kernel) ?_ | refine .mk 40 (by decide +kernel) ?_ | refine .mk 41 (by decide +kernel) ?_); (conv => whnf))
        | (refine HOLD.mk (by first | exact trivial | exact ⟨⟨rfl, rfl⟩, trivial⟩ | exact ⟨⟨rfl, rfl⟩, ⟨rfl, rfl⟩, trivial⟩) ?_; (conv => whnf))
        | (refine CALL0.mk _ _ _ _ _ (leL_refl _) (hB2 ..) rfl ?_; conv => whnf)
        | (refine CALLQ.mk _ _ _ (leL_refl _) (hB2 ..) rfl ?_; conv => whnf)
      refine ⟨?_, rfl⟩
      rw [h2, e1]; rfl
    · rename_i h2
      have h2 : decide (b.bal f i a d ≤ 0) = false := h2
      conv => whnf
      refine ⟨?_, rfl⟩
      rw [h2]; rfl
  · have q1 : decide (a ≥ 2 ^ (d - 1)) = true := decide_eq_true (by omega)
    rw [decide_eq_false ha]
    refine mk h_nacelleref03_IsBracket rfl rfl ?_
    conv => whnf
    repeat first
      | (show DRAW _ _ _ _ _; (first | refine .mk 0 (by decide +kernel) ?_ | refine .mk 1 (by decide +kernel) ?_ | refine .mk 2 (by decide +kernel) ?_ | refine .mk 3 (by decide +kernel) ?_ | refine .mk 4 (by decide +kernel) ?_ | refine .mk 5 (by decide +kernel) ?_ | refine .mk 6 (by decide +kernel) ?_ | refine .mk 7 (by decide +kernel) ?_ | refine .mk 8 (by decide +kernel) ?_ | refine .mk 9 (by decide +kernel) ?_ | refine .mk 10 (by decide +kernel) ?_ | refine .mk 11 (by decide +kernel) ?_ | refine .mk 12 (by decide +kernel) ?_ | refine .mk 13 (by decide +kernel) ?_ | refine .mk 14 (by decide +kernel) ?_ | refine .mk 15 (by decide +kernel) ?_ | refine .mk 16 (by decide +kernel) ?_ | refine .mk 17 (by decide +kernel) ?_ | refine .mk 18 (by decide +kernel) ?_ | refine .mk 19 (by decide +kernel) ?_ | refine .mk 20 (by decide +kernel) ?_ | refine .mk 21 (by decide +kernel) ?_ | refine .mk 22 (by decide +kernel) ?_ | refine .mk 23 (by decide +kernel) ?_ | refine .mk 24 (by decide +kernel) ?_ | refine .mk 25 (by decide +kernel) ?_ | refine .mk 26 (by decide +kernel) ?_ | refine .mk 27 (by decide +kernel) ?_ | refine .mk 28 (by decide +kernel) ?_ | refine .mk 29 (by decide +kernel) ?_ | refine .mk 30 (by decide +kernel) ?_ | refine .mk 31 (by decide +kernel) ?_ | refine .mk 32 (by decide +kernel) ?_ | refine .mk 33 (by decide +kernel) ?_ | refine .mk 34 (by decide +kernel) ?_ | refine .mk 35 (by decide +kernel) ?_ | refine .mk 36 (by decide +kernel) ?_ | refine .mk 37 (by decide +kernel) ?_ | refine .mk 38 (by decide +kernel) ?_ | refine .mk 39 (by decide +kernel) ?_ | refine .mk 40 (by decide +kernel) ?_ | refine .mk 41 (by decide +kernel) ?_); (conv => whnf))
      | (refine HOLD.mk (by first | exact trivial | exact ⟨⟨rfl, rfl⟩, trivial⟩ | exact ⟨⟨rfl, rfl⟩, ⟨rfl, rfl⟩, trivial⟩) ?_; (conv => whnf))
      | (refine CALL0.mk _ _ _ _ _ (leL_refl _) (hP ..) rfl ?_; conv => whnf)
      | (refine CALLQ.mk _ _ _ (leL_refl _) (hP ..) rfl ?_; conv => whnf)
    split
    rotate_left
    · rename_i h
      exact Bool.noConfusion ((q1).symm.trans h)
    rename_i hN
    clear hN
    conv => whnf
    exact ⟨rfl, rfl⟩

theorem c_rFind (up : List Ces) (b : Bl) (f : Fl) (i : Nat) (ok : b.ok f i) (D : Nat) (hD : D < 12) :
    Cs gl n_nacelleref03_Find up [polarI b, ringI b i, f.iv, .int .i64 ((D + 1 : Nat) : Int)] (findI (b.br f i D) ((D + 1 : Nat) : Int)) up := by
  have hp := Int.pow_succ (2 : Int) D
  have hq := two_pos D
  have hl := pow_le12 (d := D) (by omega)
  have e : w64 (((D + 1 : Nat) : Int) - 1) = ((D : Nat) : Int) := by rw [w64, wrap_in] <;> omega
  have hP := fun up => c_power (gl := gl) up D (by omega)
  rw [← e] at hP
  obtain ⟨H, hH⟩ : ∃ H : Nat, (H : Int) = 2 ^ D := ⟨2 ^ D, by simp⟩
  obtain ⟨o, ho⟩ : ∃ o, o = b.br f i D := ⟨_, rfl⟩
  rw [← ho]
  have hI := fun (k : Nat) (hk : k ≤ H) up => c_rIsBracket (gl := gl) up b f i ok k (D + 1) (by omega) (by omega) (by omega) (by simp; omega)
  have hB := fun (k : Nat) => isBr_iff' (b := b) (f := f) (i := i) (D := D) ok (a := (k : Int)) (by omega)
  refine mk h_nacelleref03_Find rfl rfl ?_
  conv => whnf
  refine .mk (α := {k : Nat // k ≤ H ∧ ∀ j : Nat, j < k → o ≠ some (j : Int)}) (fun k => ⟨[(10, .int .i64 k.1), (3, .int .i64 ((D + 1 : Nat) : Int)), (4, .ptr 0 4 0), (5, .ptr 0 5 0), (6, .ptr 0 6 0), (8, .ptr 0 8 0), (9, .bool false)],
    [(8, [.int .i64 0, .int .i64 0]), (6, [.int .i64 f.w, .int .i64 f.s, .int .i64 f.p]), (5, [.int .i64 (b.r1 i), .int .i64 (b.r2 i), .int .i64 (b.r3 i), .int .i64 (b.r4 i)]), (4, [.lst none 1 b.nl fun i => [.int .i64 (b.lf i)], .lst none 1 b.nd fun i => [.int .i64 (b.df i)]])], up⟩)
    (fun k => H - k.1) ⟨0, Nat.zero_le _, fun j hj => by omega⟩ ⟨?_, ?_, rfl, rfl⟩ ?_
  · exact ⟨leV_refl _, leV_refl _, leV_refl _, leV_refl _, leV_refl _, leV_refl _, leV_refl _, trivial⟩
  · exact ⟨leL_refl _, leL_refl _, leL_refl _, leL_refl _, trivial⟩
  rintro ⟨k, hk, hn⟩
  have ek : w64 ((k : Int) + 1) = ((k + 1 : Nat) : Int) := by rw [w64, wrap_in] <;> omega
  have hI' := hI k hk
  by_cases hkH : k < H
  · have q : decide ((k : Int) < 2 ^ D) = true := decide_eq_true (by omega)
    cases hb : isBr b f i k (D + 1) with
    | true =>
      have hs := (hB k).1 hb
      rw [hb] at hI'
      conv => whnf
      repeat first
        | (show DRAW _ _ _ _ _; (first | refine .mk 0 (by decide +kernel) ?_ | refine .mk 1 (by decide +kernel) ?_ | refine .mk 2 (by decide +kernel) ?_ | refine .mk 3 (by decide +kernel) ?_ | refine .mk 4 (by decide +kernel) ?_ | refine .mk 5 (by decide +kernel) ?_ | refine .mk 6 (by decide +kernel) ?_ | refine .mk 7 (by decide +kernel) ?_ | refine .mk 8 (by decide +kernel) ?_ | refine .mk 9 (by decide +kernel) ?_ | refine .mk 10 (by decide +kernel) ?_ | refine .mk 11 (by decide +kernel) ?_ | refine .mk 12 (by decide +kernel) ?_ | refine .mk 13 (by decide +kernel) ?_ | refine .mk 14 (by decide +kernel) ?_ | refine .mk 15 (by decide +kernel) ?_ | refine .mk 16 (by decide +kernel) ?_ | refine .mk 17 (by decide +kernel) ?_ | refine .mk 18 (by decide +kernel) ?_ | refine .mk 19 (by decide +kernel) ?_ | refine .mk 20 (by decide +kernel) ?_ | refine .mk 21 (by decide +kernel) ?_ | refine .mk 22 (by decide +kernel) ?_ | refine .mk 23 (by decide +kernel) ?_ | refine .mk 24 (by decide +kernel) ?_ | refine .mk 25 (by decide +kernel) ?_ | refine .mk 26 (by decide +kernel) ?_ | refine .mk 27 (by decide +kernel) ?_ | refine .mk 28 (by decide +kernel) ?_ | refine .mk 29 (by decide +kernel) ?_ | refine .mk 30 (by decide +kernel) ?_ | refine .mk 31 (by decide +kernel) ?_ | refine .mk 32 (by decide +kernel) ?_ | refine .mk 33 (by decide +kernel) ?_ | refine .mk 34 (by decide +kernel) ?_ | refine .mk 35 (by decide +kernel) ?_ | refine .mk 36 (by decide +kernel) ?_ | refine .mk 37 (by decide +kernel) ?_ | refine .mk 38 (by decide +kernel) ?_ | refine .mk 39 (by decide +kernel) ?_ | refine .mk 40 (by decide +kernel) ?_ | refine .mk 41 (by decide +kernel) ?_); (conv => whnf))
        | (refine HOLD.mk (by first | exact trivial | exact ⟨⟨rfl, rfl⟩, trivial⟩ | exact ⟨⟨rfl, rfl⟩, ⟨rfl, rfl⟩, trivial⟩) ?_; (conv => whnf))
        | (refine CALL0.mk _ _ _ _ _ (leL_refl _) (hP ..) rfl ?_; conv => whnf)
        | (refine CALLQ.mk _ _ _ (leL_refl _) (hP ..) rfl ?_; conv => whnf)
      split
      rotate_left
      · rename_i h
        exact Bool.noConfusion ((q).symm.trans h)
      rename_i hN
      clear hN
      conv => whnf
      repeat first
        | (show DRAW _ _ _ _ _; (first | refine .mk 0 (by decide +kernel) ?_ | refine .mk 1 (by decide +kernel) ?_ | refine .mk 2 (by decide +kernel) ?_ | refine .mk 3 (by decide +kernel) ?_ | refine .mk 4 (by decide +kernel) ?_ | refine .mk 5 (by decide +kernel) ?_ | refine .mk 6 (by decide +kernel) ?_ | refine .mk 7 (by decide +kernel) ?_ | refine .mk 8 (by decide +kernel) ?_ | refine .mk 9 (by decide +kernel) ?_ | refine .mk 10 (by decide +kernel) ?_ | refine .mk 11 (by decide +kernel) ?_ | refine .mk 12 (by decide +kernel) ?_ | refine .mk 13 (by decide +kernel) ?_ | refine .mk 14 (by decide +kernel) ?_ | refine .mk 15 (by decide +kernel) ?_ | refine .mk 16 (by decide +kernel) ?_ | refine .mk 17 (by decide +kernel) ?_ | refine .mk 18 (by decide +kernel) ?_ | refine .mk 19 (by decide +kernel) ?_ | refine .mk 20 (by decide +kernel) ?_ | refine .mk 21 (by decide +kernel) ?_ | refine .mk 22 (by decide +kernel) ?_ | refine .mk 23 (by decide +kernel) ?_ | refine .mk 24 (by decide +kernel) ?_ | refine .mk 25 (by decide +kernel) ?_ | refine .mk 26 (by decide +kernel) ?_ | refine .mk 27 (by decide +kernel) ?_ | refine .mk 28 (by decide +kernel) ?_ | refine .mk 29 (by decide +kernel) ?_ | refine .mk 30 (by decide +kernel) ?_ | refine .mk 31 (by decide +kernel) ?_ | refine .mk 32 (by decide +kernel) ?_ | refine .mk 33 (by decide +kernel) ?_ | refine .mk 34 (by decide +kernel) ?_ | refine .mk 35 (by decide +kernel) ?_ | refine .mk 36 (by decide +kernel) ?_ | refine .mk 37 (by decide +kernel) ?_ | refine .mk 38 (by decide +kernel) ?_ | refine .mk 39 (by decide +kernel) ?_ | refine .mk 40 (by decide +kernel) ?_ | refine .mk 41 (by decide +kernel) ?_); (conv => whnf))
        | (refine HOLD.mk (by first | exact trivial | exact ⟨⟨rfl, rfl⟩, trivial⟩ | exact ⟨⟨rfl, rfl⟩, ⟨rfl, rfl⟩, trivial⟩) ?_; (conv => whnf))
        | (refine CALL0.mk _ _ _ _ _ (leL_refl _) (hI' ..) rfl ?_; conv => whnf)
        | (refine CALLQ.mk _ _ _ (leL_refl _) (hI' ..) rfl ?_; conv => whnf)
      exact ⟨(show findI o ((D + 1 : Nat) : Int) = .tup [.agg [.int .i64 k, .int .i64 ((D + 1 : Nat) : Int)], .bool true] by rw [ho, hs]; rfl).symm, rfl⟩
    | false =>
      rw [hb] at hI'
      conv => whnf
      repeat first
        | (show DRAW _ _ _ _ _; (first | refine .mk 0 (by decide +kernel) ?_ | refine .mk 1 (by decide +kernel) ?_ | refine .mk 2 (by decide +kernel) ?_ | refine .mk 3 (by decide +kernel) ?_ | refine .mk 4 (by decide +kernel) ?_ | refine .mk 5 (by decide +kernel) ?_ | refine .mk 6 (by decide +kernel) ?_ | refine .mk 7 (by decide +kernel) ?_ | refine .mk 8 (by decide +kernel) ?_ | refine .mk 9 (by decide +kernel) ?_ | refine .mk 10 (by decide +kernel) ?_ | refine .mk 11 (by decide +kernel) ?_ | refine .mk 12 (by decide +kernel) ?_ | refine .mk 13 (by decide +kernel) ?_ | refine .mk 14 (by decide +kernel) ?_ | refine .mk 15 (by decide +kernel) ?_ | refine .mk 16 (by decide +kernel) ?_ | refine .mk 17 (by decide +kernel) ?_ | refine .mk 18 (by decide +kernel) ?_ | refine .mk 19 (by decide +kernel) ?_ | refine .mk 20 (by decide +kernel) ?_ | refine .mk 21 (by decide +kernel) ?_ | refine .mk 22 (by decide +kernel) ?_ | refine .mk 23 (by decide +kernel) ?_ | refine .mk 24 (by decide +kernel) ?_ | refine .mk 25 (by decide +kernel) ?_ | refine .mk 26 (by decide +kernel) ?_ | refine .mk 27 (by decide +kernel) ?_ | refine .mk 28 (by decide +kernel) ?_ | refine .mk 29 (by decide +kernel) ?_ | refine .mk 30 (by decide +kernel) ?_ | refine .mk 31 (by decide +kernel) ?_ | refine .mk 32 (by decide +kernel) ?_ | refine .mk 33 (by decide +kernel) ?_ | refine .mk 34 (by decide +kernel) ?_ | refine .mk 35 (by decide +kernel) ?_ | refine .mk 36 (by decide +kernel) ?_ | refine .mk 37 (by decide +kernel) ?_ | refine .mk 38 (by decide +kernel) ?_ | refine .mk 39 (by decide +kernel) ?_ | refine .mk 40 (by decide +kernel) ?_ | refine .mk 41 (by decide +kernel) ?_); (conv => whnf))
        | (refine HOLD.mk (by first | exact trivial | exact ⟨⟨rfl, rfl⟩, trivial⟩ | exact ⟨⟨rfl, rfl⟩, ⟨rfl, rfl⟩, trivial⟩) ?_; (conv => whnf))
        | (refine CALL0.mk _ _ _ _ _ (leL_refl _) (hP ..) rfl ?_; conv => whnf)
        | (refine CALLQ.mk _ _ _ (leL_refl _) (hP ..) rfl ?_; conv => whnf)
      split
      rotate_left
      · rename_i h
        exact Bool.noConfusion ((q).symm.trans h)
      rename_i hN
      clear hN
      conv => whnf
      repeat first
        | (show DRAW _ _ _ _ _; (first | refine .mk 0 (by decide +kernel) ?_ | refine .mk 1 (by decide +kernel) ?_ | refine .mk 2 (by decide +kernel) ?_ | refine .mk 3 (by decide +kernel) ?_ | refine .mk 4 (by decide +kernel) ?_ | refine .mk 5 (by decide +kernel) ?_ | refine .mk 6 (by decide +kernel) ?_ | refine .mk 7 (by decide +kernel) ?_ | refine .mk 8 (by decide +kernel) ?_ | refine .mk 9 (by decide +kernel) ?_ | refine .mk 10 (by decide +kernel) ?_ | refine .mk 11 (by decide +kernel) ?_ | refine .mk 12 (by decide +kernel) ?_ | refine .mk 13 (by decide +kernel) ?_ | refine .mk 14 (by decide +kernel) ?_ | refine .mk 15 (by decide +kernel) ?_ | refine .mk 16 (by decide +kernel) ?_ | refine .mk 17 (by decide +kernel) ?_ | refine .mk 18 (by decide +kernel) ?_ | refine .mk 19 (by decide +kernel) ?_ | refine .mk 20 (by decide +kernel) ?_ | refine .mk 21 (by decide +kernel) ?_ | refine .mk 22 (by decide +kernel) ?_ | refine .mk 23 (by decide +kernel) ?_ | refine .mk 24 (by decide +kernel) ?_ | refine .mk 25 (by decide +kernel) ?_ | refine .mk 26 (by decide +kernel) ?_ | refine .mk 27 (by decide +kernel) ?_ | refine .mk 28 (by decide +kernel) ?_ | refine .mk 29 (by decide +kernel) ?_ | refine .mk 30 (by decide +kernel) ?_ | refine .mk 31 (by decide +kernel) ?_ | refine .mk 32 (by decide +kernel) ?_ | refine .mk 33 (by decide +kernel) ?_ | refine .mk 34 (by decide +kernel) ?_ | refine .mk 35 (by decide +kernel) ?_ | refine .mk 36 (by decide +kernel) ?_ | refine .mk 37 (by decide +kernel) ?_ | refine .mk 38 (by decide +kernel) ?_ | refine .mk 39 (by decide +kernel) ?_ | refine .mk 40 (by decide +kernel) ?_ | refine .mk 41 (by decide +kernel) ?_); (conv => whnf))
        | (refine HOLD.mk (by first | exact trivial | exact ⟨⟨rfl, rfl⟩, trivial⟩ | exact ⟨⟨rfl, rfl⟩, ⟨rfl, rfl⟩, trivial⟩) ?_; (conv => whnf))
        | (refine CALL0.mk _ _ _ _ _ (leL_refl _) (hI' ..) rfl ?_; conv => whnf)
        | (refine CALLQ.mk _ _ _ (leL_refl _) (hI' ..) rfl ?_; conv => whnf)
      refine ⟨⟨k + 1, hkH, fun j hj => ?_⟩, ⟨⟨leV_int ek, leV_refl _, leV_refl _, leV_refl _, leV_refl _, leV_refl _, leV_refl _, trivial⟩, ⟨leL_refl _, leL_refl _, leL_refl _, leL_refl _, trivial⟩, rfl, rfl⟩, (by show H - (k + 1) < H - k; omega)⟩
      by_cases hj2 : j < k
      · exact hn j hj2
      · intro he
        have : j = k := by omega
        subst this
        rw [(hB j).2 (ho ▸ he)] at hb; cases hb
  · have q : decide ((k : Int) < 2 ^ D) = false := decide_eq_false (by omega)
    have hnone : o = none := by
      cases hc : o with
      | none => rfl
      | some A =>
        obtain ⟨g0, g1, _⟩ := (brP_some ok).1 (ho.symm.trans hc)
        refine absurd ?_ (hn A.toNat (by omega))
        rw [hc]; congr 1; omega
    conv => whnf
    repeat first
      | (show DRAW _ _ _ _ _; (first | refine .mk 0 (by decide +kernel) ?_ | refine .mk 1 (by decide +kernel) ?_ | refine .mk 2 (by decide +kernel) ?_ | refine .mk 3 (by decide +kernel) ?_ | refine .mk 4 (by decide +kernel) ?_ | refine .mk 5 (by decide +kernel) ?_ | refine .mk 6 (by decide +kernel) ?_ | refine .mk 7 (by decide +kernel) ?_ | refine .mk 8 (by decide +kernel) ?_ | refine .mk 9 (by decide +kernel) ?_ | refine .mk 10 (by decide +kernel) ?_ | refine .mk 11 (by decide +kernel) ?_ | refine .mk 12 (by decide +kernel) ?_ | refine .mk 13 (by decide +kernel) ?_ | refine .mk 14 (by decide +kernel) ?_ | refine .mk 15 (by decide +kernel) ?_ | refine .mk 16 (by decide +kernel) ?_ | refine .mk 17 (by decide +kernel) ?_ | refine .mk 18 (by decide +kernel) ?_ | refine .mk 19 (by decide +kernel) ?_ | refine .mk 20 (by decide +kernel) ?_ | refine .mk 21 (by decide +kernel) ?_ | refine .mk 22 (by decide +kernel) ?_ | refine .mk 23 (by decide +kernel) ?_ | refine .mk 24 (by decide +kernel) ?_ | refine .mk 25 (by decide +kernel) ?_ | refine .mk 26 (by decide +kernel) ?_ | refine .mk 27 (by decide +kernel) ?_ | refine .mk 28 (by decide +kernel) ?_ | refine .mk 29 (by decide +kernel) ?_ | refine .mk 30 (by decide +kernel) ?_ | refine .mk 31 (by decide +kernel) ?_ | refine .mk 32 (by decide +kernel) ?_ | refine .mk 33 (by decide +kernel) ?_ | refine .mk 34 (by decide +kernel) ?_ | refine .mk 35 (by decide +kernel) ?_ | refine .mk 36 (by decide +kernel) ?_ | refine .mk 37 (by decide +kernel) ?_ | refine .mk 38 (by decide +kernel) ?_ | refine .mk 39 (by decide +kernel) ?_ | refine .mk 40 (by decide +kernel) ?_ | refine .mk 41 (by decide +kernel) ?_); (conv => whnf))
      | (refine HOLD.mk (by first | exact trivial | exact ⟨⟨rfl, rfl⟩, trivial⟩ | exact ⟨⟨rfl, rfl⟩, ⟨rfl, rfl⟩, trivial⟩) ?_; (conv => whnf))
      | (refine CALL0.mk _ _ _ _ _ (leL_refl _) (hP ..) rfl ?_; conv => whnf)
      | (refine CALLQ.mk _ _ _ (leL_refl _) (hP ..) rfl ?_; conv => whnf)
    split
    · rename_i h
      exact Bool.noConfusion ((q).symm.trans h)
    rename_i hN
    clear hN
    conv => whnf
    exact ⟨(show findI o ((D + 1 : Nat) : Int) = .tup [.agg [.int .i64 0, .int .i64 0], .bool false] by rw [hnone]; rfl).symm, rfl⟩
end Go.Proofs.YtllmejkmogepjaaGreatDoor.Ix

/-
  Rz2: contracts of the reference's forces: torques and thrusts of a ring, of all rings, of a blade.
-/
namespace Go.Proofs.YtllmejkmogepjaaGreatDoor.Ix
open Go.Proofs
set_option maxRecDepth 100000
set_option linter.unusedVariables false
set_option linter.unusedSimpArgs false
variable {gl : Nat → IV}

theorem c_rtorque (up : List Ces) (b : Bl) (f : Fl) (i : Nat) (h : b.ok f i) (hnd : b.nd = b.nl) (x : Int) (h0 : -100000 ≤ x) (h1 : x ≤ 100000) :
    Cs gl n_nacelleref03_torque up [polarI b, ringI b i, f.iv, .int .i64 x] (.int .i64 (b.of f i x)) up := by
  have e := (ofP_bound h h0 h1).2.2
  unfold ofW at e
  rw [classW_eq h (by omega) (by omega)] at e
  have k := clsP_lo h x
  refine mk h_nacelleref03_torque rfl rfl ?_
  conv => whnf
  first | refine CALLQ.mk _ _ _ (leL_refl _) (c_rClass _ b f i h x (by omega) (by omega)) rfl ?_ | refine CALL0.mk _ _ _ _ _ (leL_refl _) (c_rClass _ b f i h x (by omega) (by omega)) rfl ?_
  conv => whnf
  first
    | refine .mk 0 (by decide +kernel) ?_
    | refine .mk 1 (by decide +kernel) ?_
    | refine .mk 2 (by decide +kernel) ?_
    | refine .mk 3 (by decide +kernel) ?_
    | refine .mk 4 (by decide +kernel) ?_
    | refine .mk 5 (by decide +kernel) ?_
    | refine .mk 6 (by decide +kernel) ?_
    | refine .mk 7 (by decide +kernel) ?_
    | refine .mk 8 (by decide +kernel) ?_
    | refine .mk 9 (by decide +kernel) ?_
    | refine .mk 10 (by decide +kernel) ?_
    | refine .mk 11 (by decide +kernel) ?_
    | refine .mk 12 (by decide +kernel) ?_
    | refine .mk 13 (by decide +kernel) ?_
    | refine .mk 14 (by decide +kernel) ?_
    | refine .mk 15 (by decide +kernel) ?_
    | refine .mk 16 (by decide +kernel) ?_
    | refine .mk 17 (by decide +kernel) ?_
    | refine .mk 18 (by decide +kernel) ?_
    | refine .mk 19 (by decide +kernel) ?_
    | refine .mk 20 (by decide +kernel) ?_
    | refine .mk 21 (by decide +kernel) ?_
    | refine .mk 22 (by decide +kernel) ?_
    | refine .mk 23 (by decide +kernel) ?_
    | refine .mk 24 (by decide +kernel) ?_
    | refine .mk 25 (by decide +kernel) ?_
    | refine .mk 26 (by decide +kernel) ?_
    | refine .mk 27 (by decide +kernel) ?_
    | refine .mk 28 (by decide +kernel) ?_
    | refine .mk 29 (by decide +kernel) ?_
    | refine .mk 30 (by decide +kernel) ?_
    | refine .mk 31 (by decide +kernel) ?_
    | refine .mk 32 (by decide +kernel) ?_
    | refine .mk 33 (by decide +kernel) ?_
    | refine .mk 34 (by decide +kernel) ?_
    | refine .mk 35 (by decide +kernel) ?_
    | refine .mk 36 (by decide +kernel) ?_
    | refine .mk 37 (by decide +kernel) ?_
    | refine .mk 38 (by decide +kernel) ?_
    | refine .mk 39 (by decide +kernel) ?_
    | refine .mk 40 (by decide +kernel) ?_
    | refine .mk 41 (by decide +kernel) ?_
  conv => whnf
  split
  rotate_left
  · rename_i h
    have h' : decide (0 ≤ clsP b.nl (b.r3 i) f.p x) = false := h
    simp at h' <;> omega
  conv => whnf
  split
  rotate_left
  · rename_i h
    have h' : decide (clsP b.nl (b.r3 i) f.p x < b.nl) = false := h
    simp at h' <;> omega
  conv => whnf
  split
  rotate_left
  · rename_i h
    have h' : decide (0 ≤ clsP b.nl (b.r3 i) f.p x) = false := h
    simp at h' <;> omega
  conv => whnf
  split
  rotate_left
  · rename_i h
    have h' : decide (clsP b.nl (b.r3 i) f.p x < b.nd) = false := h
    simp at h' <;> omega
  conv => whnf
  exact ⟨congrArg (IV.int .i64) e, rfl⟩

/-- The least and the greatest value from lo on, k further ones. -/
def lowTo (g : Int → Int) (lo : Int) : Nat → Int
  | 0 => g lo
  | k + 1 => min (lowTo g lo k) (g (lo + k))
def topTo (g : Int → Int) (lo : Int) : Nat → Int
  | 0 => g lo
  | k + 1 => max (topTo g lo k) (g (lo + k))
theorem lowTo_le (g : Int → Int) (lo : Int) : ∀ k j : Nat, j < k → lowTo g lo k ≤ g (lo + j)
  | 0, j, h => by omega
  | k + 1, j, h => by
    simp only [lowTo]
    by_cases e : j = k
    · subst e; omega
    · have := lowTo_le g lo k j (by omega); omega
theorem topTo_le (g : Int → Int) (lo : Int) : ∀ k j : Nat, j < k → g (lo + j) ≤ topTo g lo k
  | 0, j, h => by omega
  | k + 1, j, h => by
    simp only [topTo]
    by_cases e : j = k
    · subst e; omega
    · have := topTo_le g lo k j (by omega); omega
theorem lowTo_at (g : Int → Int) (lo : Int) : ∀ k : Nat, ∃ j : Nat, (j < k ∨ j = 0) ∧ lowTo g lo k = g (lo + j)
  | 0 => ⟨0, .inr rfl, by simp [lowTo]⟩
  | k + 1 => by
    obtain ⟨j, h1, h2⟩ := lowTo_at g lo k
    simp only [lowTo]
    by_cases e : lowTo g lo k ≤ g (lo + k)
    · exact ⟨j, by omega, by omega⟩
    · exact ⟨k, by omega, by omega⟩
theorem topTo_at (g : Int → Int) (lo : Int) : ∀ k : Nat, ∃ j : Nat, (j < k ∨ j = 0) ∧ topTo g lo k = g (lo + j)
  | 0 => ⟨0, .inr rfl, by simp [topTo]⟩
  | k + 1 => by
    obtain ⟨j, h1, h2⟩ := topTo_at g lo k
    simp only [topTo]
    by_cases e : g (lo + k) ≤ topTo g lo k
    · exact ⟨j, by omega, by omega⟩
    · exact ⟨k, by omega, by omega⟩

/-- The torque out of the places where it bends is that out of all inflows. -/
theorem tor_all {b : Bl} {f : Fl} {i : Nat} (h : b.ok f i) {a : Int} {d : Nat} {n : Nat} (hn : b.infl f i (a + 1) d + n = b.infl f i a d + 1) (h1 : 1 ≤ n) :
    lowTo (b.of f i) (b.infl f i (a + 1) d) n = (b.tor f i a d).1 ∧ topTo (b.of f i) (b.infl f i (a + 1) d) n = (b.tor f i a d).2 := by
  have hlm := inflP_mono h (d := d) (show a ≤ a + 1 by omega)
  obtain ⟨x, y, x1, x2, y1, y2, e1, e2⟩ := stepsP_in (n := b.nl) (lf := b.lf) (df := b.df) (r := b.r1 i) (c := b.r2 i) (t := b.r3 i) (tip := b.r4 i) (p := f.p) hlm (b.nl + 2)
  obtain ⟨jl, l1, l2⟩ := lowTo_at (b.of f i) (b.infl f i (a + 1) d) n
  obtain ⟨jt, t1, t2⟩ := topTo_at (b.of f i) (b.infl f i (a + 1) d) n
  have hn : inflP (b.r1 i) f.w f.s (a + 1) d + n = inflP (b.r1 i) f.w f.s a d + 1 := hn
  have g1 := stepsP_all h (least := inflP (b.r1 i) f.w f.s (a + 1) d) (most := inflP (b.r1 i) f.w f.s a d) (x := inflP (b.r1 i) f.w f.s (a + 1) d + jl) (by omega) (by omega)
  have g2 := stepsP_all h (least := inflP (b.r1 i) f.w f.s (a + 1) d) (most := inflP (b.r1 i) f.w f.s a d) (x := inflP (b.r1 i) f.w f.s (a + 1) d + jt) (by omega) (by omega)
  have q1 := lowTo_le (b.of f i) (b.infl f i (a + 1) d) n (x - inflP (b.r1 i) f.w f.s (a + 1) d).toNat (by omega)
  have q2 := topTo_le (b.of f i) (b.infl f i (a + 1) d) n (y - inflP (b.r1 i) f.w f.s (a + 1) d).toNat (by omega)
  have ex : b.infl f i (a + 1) d + ((x - inflP (b.r1 i) f.w f.s (a + 1) d).toNat : Int) = x := by
    show inflP (b.r1 i) f.w f.s (a + 1) d + _ = x
    omega
  have ey : b.infl f i (a + 1) d + ((y - inflP (b.r1 i) f.w f.s (a + 1) d).toNat : Int) = y := by
    show inflP (b.r1 i) f.w f.s (a + 1) d + _ = y
    omega
  rw [ex] at q1
  rw [ey] at q2
  have q1 : lowTo (b.of f i) (b.infl f i (a + 1) d) n ≤ (b.tor f i a d).1 := Int.le_trans q1 (Int.le_of_eq e1.symm)
  have q2 : (b.tor f i a d).2 ≤ topTo (b.of f i) (b.infl f i (a + 1) d) n := Int.le_trans (Int.le_of_eq e2) q2
  have g1 : (b.tor f i a d).1 ≤ b.of f i (b.infl f i (a + 1) d + jl) := g1.1
  have g2 : b.of f i (b.infl f i (a + 1) d + jt) ≤ (b.tor f i a d).2 := g2.2
  omega

theorem c_rTorque (up : List Ces) (b : Bl) (f : Fl) (i : Nat) (h : b.ok f i) (hnd : b.nd = b.nl) (a : Int) (d : Nat) (hd : d ≤ 12) (h0 : 0 ≤ a) (h1 : a + 1 ≤ 2 ^ d) :
    Cs gl n_nacelleref03_Torque up [polarI b, ringI b i, f.iv, .agg [.int .i64 a, .int .i64 d]] (.agg [.int .i64 (b.tor f i a d).1, .int .i64 (b.tor f i a d).2]) up := by
  have e1 : w64 (a + 1) = a + 1 := by have := pow_le12 hd; rw [w64, wrap_in] <;> omega
  have hI1 := fun up => c_rInflow (gl := gl) up b f i h (a + 1) d hd (by omega) h1
  rw [← e1] at hI1
  have hI2 := fun up => c_rInflow (gl := gl) up b f i h a d hd h0 (by omega)
  have r1 := infl_rng (b := b) (f := f) (i := i) h (a := a + 1) (d := d) (by omega) h1
  have r2 := infl_rng (b := b) (f := f) (i := i) h (a := a) (d := d) h0 (by omega)
  have hlm : b.infl f i (a + 1) d ≤ b.infl f i a d := inflP_mono h (d := d) (show a ≤ a + 1 by omega)
  obtain ⟨n, hn⟩ : ∃ n : Nat, b.infl f i (a + 1) d + n = b.infl f i a d + 1 := ⟨(b.infl f i a d + 1 - b.infl f i (a + 1) d).toNat, by omega⟩
  obtain ⟨ta, tb⟩ := tor_all h hn (by omega)
  rw [← ta, ← tb]
  clear ta tb
  rw [e1] at hI1
  obtain ⟨A, hA⟩ : ∃ A, A = b.infl f i (a + 1) d := ⟨_, rfl⟩
  obtain ⟨B, hB⟩ : ∃ B, B = b.infl f i a d := ⟨_, rfl⟩
  rw [← hA, ← hB] at hn hlm
  rw [← hA] at hI1 r1 ⊢
  rw [← hB] at hI2 r2
  rw [← e1] at hI1
  clear hA hB
  have hT := fun (x : Int) (g0 : 0 ≤ x) (g1 : x ≤ B) up => c_rtorque (gl := gl) up b f i h hnd x (by omega) (by omega)
  have hTA := hT A (by omega) (by omega)
  refine mk h_nacelleref03_Torque rfl rfl ?_
  conv => whnf
  repeat first
    | (show DRAW _ _ _ _ _; (first | refine .mk 0 (by decide +kernel) ?_ | refine .mk 1 (by decide +kernel) ?_ | refine .mk 2 (by decide +kernel) ?_ | refine .mk 3 (by decide +kernel) ?_ | refine .mk 4 (by decide +kernel) ?_ | refine .mk 5 (by decide +kernel) ?_ | refine .mk 6 (by decide +kernel) ?_ | refine .mk 7 (by decide +kernel) ?_ | refine .mk 8 (by decide +kernel) ?_ | refine .mk 9 (by decide +kernel) ?_ | refine .mk 10 (by decide +kernel) ?_ | refine .mk 11 (by decide +kernel) ?_ | refine .mk 12 (by decide +kernel) ?_ | refine .mk 13 (by decide +kernel) ?_ | refine .mk 14 (by decide +kernel) ?_ | refine .mk 15 (by decide +kernel) ?_ | refine .mk 16 (by decide +kernel) ?_ | refine .mk 17 (by decide +kernel) ?_ | refine .mk 18 (by decide +kernel) ?_ | refine .mk 19 (by decide +kernel) ?_ | refine .mk 20 (by decide +kernel) ?_ | refine .mk 21 (by decide +kernel) ?_ | refine .mk 22 (by decide +kernel) ?_ | refine .mk 23 (by decide +kernel) ?_ | refine .mk 24 (by decide +kernel) ?_ | refine .mk 25 (by decide +kernel) ?_ | refine .mk 26 (by decide +kernel) ?_ | refine .mk 27 (by decide +kernel) ?_ | refine .mk 28 (by decide +kernel) ?_ | refine .mk 29 (by decide +kernel) ?_ | refine .mk 30 (by decide +kernel) ?_ | refine .mk 31 (by decide +kernel) ?_ | refine .mk 32 (by decide +kernel) ?_ | refine .mk 33 (by decide +kernel) ?_ | refine .mk 34 (by decide +kernel) ?_ | refine .mk 35 (by decide +kernel) ?_ | refine .mk 36 (by decide +kernel) ?_ | refine .mk 37 (by decide +kernel) ?_ | refine .mk 38 (by decide +kernel) ?_ | refine .mk 39 (by decide +kernel) ?_ | refine .mk 40 (by decide +kernel) ?_ | refine .mk 41 (by decide +kernel) ?_); (conv => whnf))
    | (refine HOLD.mk (by first | exact trivial | exact ⟨⟨rfl, rfl⟩, trivial⟩ | exact ⟨⟨rfl, rfl⟩, ⟨rfl, rfl⟩, trivial⟩) ?_; (conv => whnf))
    | (refine CALL0.mk _ _ _ _ _ (leL_refl _) (hI1 ..) rfl ?_; conv => whnf)
    | (refine CALLQ.mk _ _ _ (leL_refl _) (hI1 ..) rfl ?_; conv => whnf)
    | (refine CALL0.mk _ _ _ _ _ (leL_refl _) (hI2 ..) rfl ?_; conv => whnf)
    | (refine CALLQ.mk _ _ _ (leL_refl _) (hI2 ..) rfl ?_; conv => whnf)
  repeat first
    | (show DRAW _ _ _ _ _; (first | refine .mk 0 (by decide +kernel) ?_ | refine .mk 1 (by decide +kernel) ?_ | refine .mk 2 (by decide +kernel) ?_ | refine .mk 3 (by decide +kernel) ?_ | refine .mk 4 (by decide +kernel) ?_ | refine .mk 5 (by decide +kernel) ?_ | refine .mk 6 (by decide +kernel) ?_ | refine .mk 7 (by decide +kernel) ?_ | refine .mk 8 (by decide +kernel) ?_ | refine .mk 9 (by decide +kernel) ?_ | refine .mk 10 (by decide +kernel) ?_ | refine .mk 11 (by decide +kernel) ?_ | refine .mk 12 (by decide +kernel) ?_ | refine .mk 13 (by decide +kernel) ?_ | refine .mk 14 (by decide +kernel) ?_ | refine .mk 15 (by decide +kernel) ?_ | refine .mk 16 (by decide +kernel) ?_ | refine .mk 17 (by decide +kernel) ?_ | refine .mk 18 (by decide +kernel) ?_ | refine .mk 19 (by decide +kernel) ?_ | refine .mk 20 (by decide +kernel) ?_ | refine .mk 21 (by decide +kernel) ?_ | refine .mk 22 (by decide +kernel) ?_ | refine .mk 23 (by decide +kernel) ?_ | refine .mk 24 (by decide +kernel) ?_ | refine .mk 25 (by decide +kernel) ?_ | refine .mk 26 (by decide +kernel) ?_ | refine .mk 27 (by decide +kernel) ?_ | refine .mk 28 (by decide +kernel) ?_ | refine .mk 29 (by decide +kernel) ?_ | refine .mk 30 (by decide +kernel) ?_ | refine .mk 31 (by decide +kernel) ?_ | refine .mk 32 (by decide +kernel) ?_ | refine .mk 33 (by decide +kernel) ?_ | refine .mk 34 (by decide +kernel) ?_ | refine .mk 35 (by decide +kernel) ?_ | refine .mk 36 (by decide +kernel) ?_ | refine .mk 37 (by decide +kernel) ?_ | refine .mk 38 (by decide +kernel) ?_ | refine .mk 39 (by decide +kernel) ?_ | refine .mk 40 (by decide +kernel) ?_ | refine .mk 41 (by decide +kernel) ?_); (conv => whnf))
    | (refine HOLD.mk (by first | exact trivial | exact ⟨⟨rfl, rfl⟩, trivial⟩ | exact ⟨⟨rfl, rfl⟩, ⟨rfl, rfl⟩, trivial⟩) ?_; (conv => whnf))
    | (refine CALL0.mk _ _ _ _ _ (leL_refl _) (hTA ..) rfl ?_; conv => whnf)
    | (refine CALLQ.mk _ _ _ (leL_refl _) (hTA ..) rfl ?_; conv => whnf)
  refine .mk (α := {k : Nat // k ≤ n}) (fun k => ⟨[(12, .int .i64 (A + k.1)), (10, .int .i64 B), (11, .ptr 0 11 0), (8, .ptr 0 8 0), (4, .ptr 0 4 0), (5, .ptr 0 5 0), (6, .ptr 0 6 0)],
    [(11, [.int .i64 (lowTo (b.of f i) A k.1), .int .i64 (topTo (b.of f i) A k.1)]), (8, [.int .i64 0, .int .i64 0]), (6, [.int .i64 f.w, .int .i64 f.s, .int .i64 f.p]), (5, [.int .i64 (b.r1 i), .int .i64 (b.r2 i), .int .i64 (b.r3 i), .int .i64 (b.r4 i)]), (4, [.lst none 1 b.nl fun i => [.int .i64 (b.lf i)], .lst none 1 b.nd fun i => [.int .i64 (b.df i)]])], up⟩)
    (fun k => n - k.1) ⟨0, Nat.zero_le _⟩ ⟨?_, ?_, rfl, rfl⟩ ?_
  · exact ⟨leV_int (by simp), leV_refl _, leV_refl _, leV_refl _, leV_refl _, leV_refl _, leV_refl _, trivial⟩
  · exact ⟨leL_refl _, leL_refl _, leL_refl _, leL_refl _, leL_refl _, trivial⟩
  rintro ⟨k, hk⟩
  by_cases hkn : k < n
  · have q : decide (A + (k : Int) ≤ B) = true := decide_eq_true (by omega)
    have hTk := hT (A + k) (by omega) (by omega)
    have ek : w64 (A + (k : Int) + 1) = A + ((k + 1 : Nat) : Int) := by rw [w64, wrap_in] <;> omega
    conv => whnf
    split
    rotate_left
    · rename_i h
      exact Bool.noConfusion ((q).symm.trans h)
    rename_i hN
    clear hN
    conv => whnf
    repeat first
      | (show DRAW _ _ _ _ _; (first | refine .mk 0 (by decide +kernel) ?_ | refine .mk 1 (by decide +kernel) ?_ | refine .mk 2 (by decide +kernel) ?_ | refine .mk 3 (by decide +kernel) ?_ | refine .mk 4 (by decide +kernel) ?_ | refine .mk 5 (by decide +kernel) ?_ | refine .mk 6 (by decide +kernel) ?_ | refine .mk 7 (by decide +kernel) ?_ | refine .mk 8 (by decide +kernel) ?_ | refine .mk 9 (by decide +kernel) ?_ | refine .mk 10 (by decide +kernel) ?_ | refine .mk 11 (by decide +kernel) ?_ | refine .mk 12 (by decide +kernel) ?_ | refine .mk 13 (by decide +kernel) ?_ | refine .mk 14 (by decide +kernel) ?_ | refine .mk 15 (by decide +kernel) ?_ | refine .mk 16 (by decide +kernel) ?_ | refine .mk 17 (by decide +kernel) ?_ | refine .mk 18 (by decide +kernel) ?_ | refine .mk 19 (by decide +kernel) ?_ | refine .mk 20 (by decide +kernel) ?_ | refine .mk 21 (by decide +kernel) ?_ | refine .mk 22 (by decide +kernel) ?_ | refine .mk 23 (by decide +kernel) ?_ | refine .mk 24 (by decide +kernel) ?_ | refine .mk 25 (by decide +kernel) ?_ | refine .mk 26 (by decide +kernel) ?_ | refine .mk 27 (by decide +kernel) ?_ | refine .mk 28 (by decide +kernel) ?_ | refine .mk 29 (by decide +kernel) ?_ | refine .mk 30 (by decide +kernel) ?_ | refine .mk 31 (by decide +kernel) ?_ | refine .mk 32 (by decide +kernel) ?_ | refine .mk 33 (by decide +kernel) ?_ | refine .mk 34 (by decide +kernel) ?_ | refine .mk 35 (by decide +kernel) ?_ | refine .mk 36 (by decide +kernel) ?_ | refine .mk 37 (by decide +kernel) ?_ | refine .mk 38 (by decide +kernel) ?_ | refine .mk 39 (by decide +kernel) ?_ | refine .mk 40 (by decide +kernel) ?_ | refine .mk 41 (by decide +kernel) ?_); (conv => whnf))
      | (refine HOLD.mk (by first | exact trivial | exact ⟨⟨rfl, rfl⟩, trivial⟩ | exact ⟨⟨rfl, rfl⟩, ⟨rfl, rfl⟩, trivial⟩) ?_; (conv => whnf))
      | (refine CALL0.mk _ _ _ _ _ (leL_refl _) (hTk ..) rfl ?_; conv => whnf)
      | (refine CALLQ.mk _ _ _ (leL_refl _) (hTk ..) rfl ?_; conv => whnf)
    refine ⟨⟨k + 1, hkn⟩, ⟨⟨leV_int ek, leV_refl _, leV_refl _, leV_refl _, leV_refl _, leV_refl _, leV_refl _, trivial⟩, ⟨⟨leV_int ?_, leV_int ?_, trivial⟩, leL_refl _, leL_refl _, leL_refl _, leL_refl _, trivial⟩, rfl, rfl⟩, (by show n - (k + 1) < n - k; omega)⟩
    · show minW (lowTo (b.of f i) A k) (b.of f i (A + k)) = _
      rw [minW_eq]; rfl
    · show maxW (topTo (b.of f i) A k) (b.of f i (A + k)) = _
      rw [maxW_eq]; rfl
  · have q : decide (A + (k : Int) ≤ B) = false := decide_eq_false (by omega)
    have : k = n := by omega
    subst this
    conv => whnf
    split
    · rename_i h
      exact Bool.noConfusion ((q).symm.trans h)
    rename_i hN
    clear hN
    conv => whnf
    exact ⟨rfl, rfl⟩

theorem c_rThrust (up : List Ces) (b : Bl) (f : Fl) (i : Nat) (h : b.ok f i) (a : Int) (d : Nat) (hd : d ≤ 12) (h0 : 0 ≤ a) (h1 : a + 1 ≤ 2 ^ d) :
    Cs gl n_nacelleref03_Thrust up [ringI b i, .agg [.int .i64 a, .int .i64 d]] (.agg [.int .i64 (b.thr i a d).1, .int .i64 (b.thr i a d).2]) up := by
  have q1 := (thrustP_bound h (d := d) (a := a) hd h0 (by omega)).2.2
  have q2 := (thrustP_bound h (d := d) (a := a + 1) hd (by omega) (by omega)).2.2
  rw [wholeW_eq hd] at q1 q2
  have hp := pow_le12 hd
  have e1 : w64 (a + 1) = a + 1 := by rw [w64, wrap_in] <;> omega
  have e2 : w64 (w64 (2 ^ d - a) - 1) = w64 (2 ^ d - (a + 1)) := by
    have : w64 (2 ^ d - a) = 2 ^ d - a := by rw [w64, wrap_in] <;> omega
    rw [this]; congr 1; omega
  have hP := fun up => c_power (gl := gl) up d (by omega)
  refine mk h_nacelleref03_Thrust rfl rfl ?_
  conv => whnf
  repeat first
    | (show DRAW _ _ _ _ _; (first | refine .mk 0 (by decide +kernel) ?_ | refine .mk 1 (by decide +kernel) ?_ | refine .mk 2 (by decide +kernel) ?_ | refine .mk 3 (by decide +kernel) ?_ | refine .mk 4 (by decide +kernel) ?_ | refine .mk 5 (by decide +kernel) ?_ | refine .mk 6 (by decide +kernel) ?_ | refine .mk 7 (by decide +kernel) ?_ | refine .mk 8 (by decide +kernel) ?_ | refine .mk 9 (by decide +kernel) ?_ | refine .mk 10 (by decide +kernel) ?_ | refine .mk 11 (by decide +kernel) ?_ | refine .mk 12 (by decide +kernel) ?_ | refine .mk 13 (by decide +kernel) ?_ | refine .mk 14 (by decide +kernel) ?_ | refine .mk 15 (by decide +kernel) ?_ | refine .mk 16 (by decide +kernel) ?_ | refine .mk 17 (by decide +kernel) ?_ | refine .mk 18 (by decide +kernel) ?_ | refine .mk 19 (by decide +kernel) ?_ | refine .mk 20 (by decide +kernel) ?_ | refine .mk 21 (by decide +kernel) ?_ | refine .mk 22 (by decide +kernel) ?_ | refine .mk 23 (by decide +kernel) ?_ | refine .mk 24 (by decide +kernel) ?_ | refine .mk 25 (by decide +kernel) ?_ | refine .mk 26 (by decide +kernel) ?_ | refine .mk 27 (by decide +kernel) ?_ | refine .mk 28 (by decide +kernel) ?_ | refine .mk 29 (by decide +kernel) ?_ | refine .mk 30 (by decide +kernel) ?_ | refine .mk 31 (by decide +kernel) ?_ | refine .mk 32 (by decide +kernel) ?_ | refine .mk 33 (by decide +kernel) ?_ | refine .mk 34 (by decide +kernel) ?_ | refine .mk 35 (by decide +kernel) ?_ | refine .mk 36 (by decide +kernel) ?_ | refine .mk 37 (by decide +kernel) ?_ | refine .mk 38 (by decide +kernel) ?_ | refine .mk 39 (by decide +kernel) ?_ | refine .mk 40 (by decide +kernel) ?_ | refine .mk 41 (by decide +kernel) ?_); (conv => whnf))
    | (refine HOLD.mk (by first | exact trivial | exact ⟨⟨rfl, rfl⟩, trivial⟩ | exact ⟨⟨rfl, rfl⟩, ⟨rfl, rfl⟩, trivial⟩) ?_; (conv => whnf))
    | (refine CALL0.mk _ _ _ _ _ (leL_refl _) (hP ..) rfl ?_; conv => whnf)
    | (refine CALLQ.mk _ _ _ (leL_refl _) (hP ..) rfl ?_; conv => whnf)
  refine ⟨?_, rfl⟩
  show IV.agg [.int .i64 (w64 (w64 (w64 (1024 * a) * w64 (2 ^ d - a)) * b.r1 i)), .int .i64 (w64 (w64 (w64 (1024 * w64 (a + 1)) * w64 (w64 (2 ^ d - a) - 1)) * b.r1 i))] = _
  rw [q1, e1, e2, q2]; rfl
end Go.Proofs.YtllmejkmogepjaaGreatDoor.Ix

/-
  Rz3: contracts of the reference's forces: all rings, the blade; the helpers light, span, SameTorques.
-/
namespace Go.Proofs.YtllmejkmogepjaaGreatDoor.Ix
open Go.Proofs
set_option maxRecDepth 100000
set_option linter.unusedVariables false
set_option linter.unusedSimpArgs false
variable {gl : Nat → IV}

/-- The torques of all rings. -/
def Bl.tl (b : Bl) (f : Fl) (D : Nat) (i : Nat) : List IV := [.int .i64 (b.tor f i (b.at f i D) (D + 1)).1, .int .i64 (b.tor f i (b.at f i D) (D + 1)).2]

theorem not_all {b : Bl} {f : Fl} {D k : Nat} (hk : k < b.nr) (h : b.br f k D = none) : ¬ allBr b f 0 := fun q => by
  have := (allBr_iff 0 D).1 q k hk
  rw [h] at this; cases this

theorem c_rRings (up : List Ces) (b : Bl) (f : Fl) (g : Good b f) (D : Nat) (hD : D < 12) :
    Cs gl n_nacelleref03_Rings up [b.iv, f.iv, .int .i64 ((D + 1 : Nat) : Int)] (if allBr b f 0 then .tup [.lst (some 46) 2 b.nr (b.tl f D), .bool true] else .tup [.nilS, .bool false]) up := by
  obtain ⟨hnd, hn1, hn2, ok⟩ := g.all
  have hs := Int.pow_succ (2 : Int) D
  have hq := two_pos D
  refine mk h_nacelleref03_Rings rfl rfl ?_
  conv => whnf
  refine .mk (α := {k : Nat // k ≤ b.nr ∧ ∀ j, j < k → (b.br f j D).isSome = true}) (fun k => ⟨[(9, .int .i64 k.1), (8, .lst (some 46) 2 k.1 (b.tl f D)), (2, .int .i64 ((D + 1 : Nat) : Int)), (3, .ptr 0 3 0), (4, .ptr 0 4 0), (6, .nilS), (7, .bool false)],
    [(4, [.int .i64 f.w, .int .i64 f.s, .int .i64 f.p]), (3, [.lst none 1 b.nl fun i => [.int .i64 (b.lf i)], .lst none 1 b.nd fun i => [.int .i64 (b.df i)], .lst none 4 b.nr fun i => [.int .i64 (b.r1 i), .int .i64 (b.r2 i), .int .i64 (b.r3 i), .int .i64 (b.r4 i)]])], up⟩)
    (fun k => b.nr - k.1) ⟨0, Nat.zero_le _, fun j hj => by omega⟩ ⟨?_, ?_, rfl, rfl⟩ ?_
  · exact ⟨leV_refl _, rfl, leV_refl _, leV_refl _, leV_refl _, leV_refl _, leV_refl _, trivial⟩
  · exact ⟨leL_refl _, leL_refl _, trivial⟩
  rintro ⟨k, hk, hs2⟩
  by_cases hkn : k < b.nr
  · have q : decide ((k : Int) < b.nr) = true := decide_eq_true (by omega)
    have q0 : decide (0 ≤ (k : Int)) = true := decide_eq_true (by omega)
    have ek : w64 ((k : Int) + 1) = ((k + 1 : Nat) : Int) := by rw [w64, wrap_in] <;> omega
    have hF := fun up => c_rFind (gl := gl) up b f k (ok k hkn) D hD
    cases hbr : b.br f k D with
    | none =>
      rw [hbr] at hF
      conv => whnf
      split
      rotate_left
      · rename_i h
        exact Bool.noConfusion ((q).symm.trans h)
      rename_i hN
      clear hN
      conv => whnf
      first
        | refine .mk 0 (by decide +kernel) ?_
        | refine .mk 1 (by decide +kernel) ?_
        | refine .mk 2 (by decide +kernel) ?_
        | refine .mk 3 (by decide +kernel) ?_
        | refine .mk 4 (by decide +kernel) ?_
        | refine .mk 5 (by decide +kernel) ?_
        | refine .mk 6 (by decide +kernel) ?_
        | refine .mk 7 (by decide +kernel) ?_
        | refine .mk 8 (by decide +kernel) ?_
        | refine .mk 9 (by decide +kernel) ?_
        | refine .mk 10 (by decide +kernel) ?_
        | refine .mk 11 (by decide +kernel) ?_
        | refine .mk 12 (by decide +kernel) ?_
        | refine .mk 13 (by decide +kernel) ?_
        | refine .mk 14 (by decide +kernel) ?_
        | refine .mk 15 (by decide +kernel) ?_
        | refine .mk 16 (by decide +kernel) ?_
        | refine .mk 17 (by decide +kernel) ?_
        | refine .mk 18 (by decide +kernel) ?_
        | refine .mk 19 (by decide +kernel) ?_
        | refine .mk 20 (by decide +kernel) ?_
        | refine .mk 21 (by decide +kernel) ?_
        | refine .mk 22 (by decide +kernel) ?_
        | refine .mk 23 (by decide +kernel) ?_
        | refine .mk 24 (by decide +kernel) ?_
        | refine .mk 25 (by decide +kernel) ?_
        | refine .mk 26 (by decide +kernel) ?_
        | refine .mk 27 (by decide +kernel) ?_
        | refine .mk 28 (by decide +kernel) ?_
        | refine .mk 29 (by decide +kernel) ?_
        | refine .mk 30 (by decide +kernel) ?_
        | refine .mk 31 (by decide +kernel) ?_
        | refine .mk 32 (by decide +kernel) ?_
        | refine .mk 33 (by decide +kernel) ?_
        | refine .mk 34 (by decide +kernel) ?_
        | refine .mk 35 (by decide +kernel) ?_
        | refine .mk 36 (by decide +kernel) ?_
        | refine .mk 37 (by decide +kernel) ?_
        | refine .mk 38 (by decide +kernel) ?_
        | refine .mk 39 (by decide +kernel) ?_
        | refine .mk 40 (by decide +kernel) ?_
        | refine .mk 41 (by decide +kernel) ?_
      conv => whnf
      split
      rotate_left
      · rename_i h
        exact Bool.noConfusion ((q).symm.trans h)
      rename_i hN
      clear hN
      conv => whnf
      repeat first
        | (show DRAW _ _ _ _ _; (first | refine .mk 0 (by decide +kernel) ?_ | refine .mk 1 (by decide +kernel) ?_ | refine .mk 2 (by decide +kernel) ?_ | refine .mk 3 (by decide +kernel) ?_ | refine .mk 4 (by decide +kernel) ?_ | refine .mk 5 (by decide +kernel) ?_ | refine .mk 6 (by decide +kernel) ?_ | refine .mk 7 (by decide +kernel) ?_ | refine .mk 8 (by decide +kernel) ?_ | refine .mk 9 (by decide +kernel) ?_ | refine .mk 10 (by decide +kernel) ?_ | refine .mk 11 (by decide +kernel) ?_ | refine .mk 12 (by decide +kernel) ?_ | refine .mk 13 (by decide +kernel) ?_ | refine .mk 14 (by decide +kernel) ?_ | refine .mk 15 (by decide +kernel) ?_ | refine .mk 16 (by decide +kernel) ?_ | refine .mk 17 (by decide +kernel) ?_ | refine .mk 18 (by decide +kernel) ?_ | refine .mk 19 (by decide +kernel) ?_ | refine .mk 20 (by decide +kernel) ?_ | refine .mk 21 (by decide +kernel) ?_ | refine .mk 22 (by decide +kernel) ?_ | refine .mk 23 (by decide +kernel) ?_ | refine .mk 24 (by decide +kernel) ?_ | refine .mk 25 (by decide +kernel) ?_ | refine .mk 26 (by decide +kernel) ?_ | refine .mk 27 (by decide +kernel) ?_ | refine .mk 28 (by decide +kernel) ?_ | refine .mk 29 (by decide +kernel) ?_ | refine .mk 30 (by decide +kernel) ?_ | refine .mk 31 (by decide +kernel) ?_ | refine .mk 32 (by decide +kernel) ?_ | refine .mk 33 (by decide +kernel) ?_ | refine .mk 34 (by decide +kernel) ?_ | refine .mk 35 (by decide +kernel) ?_ | refine .mk 36 (by decide +kernel) ?_ | refine .mk 37 (by decide +kernel) ?_ | refine .mk 38 (by decide +kernel) ?_ | refine .mk 39 (by decide +kernel) ?_ | refine .mk 40 (by decide +kernel) ?_ | refine .mk 41 (by decide +kernel) ?_); (conv => whnf))
        | (refine HOLD.mk (by first | exact trivial | exact ⟨⟨rfl, rfl⟩, trivial⟩ | exact ⟨⟨rfl, rfl⟩, ⟨rfl, rfl⟩, trivial⟩) ?_; (conv => whnf))
        | (refine CALL0.mk _ _ _ _ _ (leL_refl _) (hF ..) rfl ?_; conv => whnf)
        | (refine CALLQ.mk _ _ _ (leL_refl _) (hF ..) rfl ?_; conv => whnf)
      refine ⟨?_, rfl⟩
      rw [if_neg (not_all hkn hbr)]
    | some A =>
      rw [hbr] at hF
      obtain ⟨A0, A1⟩ := br_rng (ok k hkn) hbr
      have hA : b.at f k D = A := by unfold Bl.at; rw [hbr]; rfl
      have hT := fun up => c_rTorque (gl := gl) up b f k (ok k hkn) hnd A (D + 1) (by omega) A0 (by omega)
      conv => whnf
      split
      rotate_left
      · rename_i h
        exact Bool.noConfusion ((q).symm.trans h)
      rename_i hN
      clear hN
      conv => whnf
      first
        | refine .mk 0 (by decide +kernel) ?_
        | refine .mk 1 (by decide +kernel) ?_
        | refine .mk 2 (by decide +kernel) ?_
        | refine .mk 3 (by decide +kernel) ?_
        | refine .mk 4 (by decide +kernel) ?_
        | refine .mk 5 (by decide +kernel) ?_
        | refine .mk 6 (by decide +kernel) ?_
        | refine .mk 7 (by decide +kernel) ?_
        | refine .mk 8 (by decide +kernel) ?_
        | refine .mk 9 (by decide +kernel) ?_
        | refine .mk 10 (by decide +kernel) ?_
        | refine .mk 11 (by decide +kernel) ?_
        | refine .mk 12 (by decide +kernel) ?_
        | refine .mk 13 (by decide +kernel) ?_
        | refine .mk 14 (by decide +kernel) ?_
        | refine .mk 15 (by decide +kernel) ?_
        | refine .mk 16 (by decide +kernel) ?_
        | refine .mk 17 (by decide +kernel) ?_
        | refine .mk 18 (by decide +kernel) ?_
        | refine .mk 19 (by decide +kernel) ?_
        | refine .mk 20 (by decide +kernel) ?_
        | refine .mk 21 (by decide +kernel) ?_
        | refine .mk 22 (by decide +kernel) ?_
        | refine .mk 23 (by decide +kernel) ?_
        | refine .mk 24 (by decide +kernel) ?_
        | refine .mk 25 (by decide +kernel) ?_
        | refine .mk 26 (by decide +kernel) ?_
        | refine .mk 27 (by decide +kernel) ?_
        | refine .mk 28 (by decide +kernel) ?_
        | refine .mk 29 (by decide +kernel) ?_
        | refine .mk 30 (by decide +kernel) ?_
        | refine .mk 31 (by decide +kernel) ?_
        | refine .mk 32 (by decide +kernel) ?_
        | refine .mk 33 (by decide +kernel) ?_
        | refine .mk 34 (by decide +kernel) ?_
        | refine .mk 35 (by decide +kernel) ?_
        | refine .mk 36 (by decide +kernel) ?_
        | refine .mk 37 (by decide +kernel) ?_
        | refine .mk 38 (by decide +kernel) ?_
        | refine .mk 39 (by decide +kernel) ?_
        | refine .mk 40 (by decide +kernel) ?_
        | refine .mk 41 (by decide +kernel) ?_
      conv => whnf
      split
      rotate_left
      · rename_i h
        exact Bool.noConfusion ((q).symm.trans h)
      rename_i hN
      clear hN
      conv => whnf
      repeat first
        | (show DRAW _ _ _ _ _; (first | refine .mk 0 (by decide +kernel) ?_ | refine .mk 1 (by decide +kernel) ?_ | refine .mk 2 (by decide +kernel) ?_ | refine .mk 3 (by decide +kernel) ?_ | refine .mk 4 (by decide +kernel) ?_ | refine .mk 5 (by decide +kernel) ?_ | refine .mk 6 (by decide +kernel) ?_ | refine .mk 7 (by decide +kernel) ?_ | refine .mk 8 (by decide +kernel) ?_ | refine .mk 9 (by decide +kernel) ?_ | refine .mk 10 (by decide +kernel) ?_ | refine .mk 11 (by decide +kernel) ?_ | refine .mk 12 (by decide +kernel) ?_ | refine .mk 13 (by decide +kernel) ?_ | refine .mk 14 (by decide +kernel) ?_ | refine .mk 15 (by decide +kernel) ?_ | refine .mk 16 (by decide +kernel) ?_ | refine .mk 17 (by decide +kernel) ?_ | refine .mk 18 (by decide +kernel) ?_ | refine .mk 19 (by decide +kernel) ?_ | refine .mk 20 (by decide +kernel) ?_ | refine .mk 21 (by decide +kernel) ?_ | refine .mk 22 (by decide +kernel) ?_ | refine .mk 23 (by decide +kernel) ?_ | refine .mk 24 (by decide +kernel) ?_ | refine .mk 25 (by decide +kernel) ?_ | refine .mk 26 (by decide +kernel) ?_ | refine .mk 27 (by decide +kernel) ?_ | refine .mk 28 (by decide +kernel) ?_ | refine .mk 29 (by decide +kernel) ?_ | refine .mk 30 (by decide +kernel) ?_ | refine .mk 31 (by decide +kernel) ?_ | refine .mk 32 (by decide +kernel) ?_ | refine .mk 33 (by decide +kernel) ?_ | refine .mk 34 (by decide +kernel) ?_ | refine .mk 35 (by decide +kernel) ?_ | refine .mk 36 (by decide +kernel) ?_ | refine .mk 37 (by decide +kernel) ?_ | refine .mk 38 (by decide +kernel) ?_ | refine .mk 39 (by decide +kernel) ?_ | refine .mk 40 (by decide +kernel) ?_ | refine .mk 41 (by decide +kernel) ?_); (conv => whnf))
        | (refine HOLD.mk (by first | exact trivial | exact ⟨⟨rfl, rfl⟩, trivial⟩ | exact ⟨⟨rfl, rfl⟩, ⟨rfl, rfl⟩, trivial⟩) ?_; (conv => whnf))
        | (refine CALL0.mk _ _ _ _ _ (leL_refl _) (hF ..) rfl ?_; conv => whnf)
        | (refine CALLQ.mk _ _ _ (leL_refl _) (hF ..) rfl ?_; conv => whnf)
      split
      rotate_left
      · rename_i h
        exact Bool.noConfusion ((q).symm.trans h)
      rename_i hN
      clear hN
      conv => whnf
      repeat first
        | (show DRAW _ _ _ _ _; (first | refine .mk 0 (by decide +kernel) ?_ | refine .mk 1 (by decide +kernel) ?_ | refine .mk 2 (by decide +kernel) ?_ | refine .mk 3 (by decide +kernel) ?_ | refine .mk 4 (by decide +kernel) ?_ | refine .mk 5 (by decide +kernel) ?_ | refine .mk 6 (by decide +kernel) ?_ | refine .mk 7 (by decide +kernel) ?_ | refine .mk 8 (by decide +kernel) ?_ | refine .mk 9 (by decide +kernel) ?_ | refine .mk 10 (by decide +kernel) ?_ | refine .mk 11 (by decide +kernel) ?_ | refine .mk 12 (by decide +kernel) ?_ | refine .mk 13 (by decide +kernel) ?_ | refine .mk 14 (by decide +kernel) ?_ | refine .mk 15 (by decide +kernel) ?_ | refine .mk 16 (by decide +kernel) ?_ | refine .mk 17 (by decide +kernel) ?_ | refine .mk 18 (by decide +kernel) ?_ | refine .mk 19 (by decide +kernel) ?_ | refine .mk 20 (by decide +kernel) ?_ | refine .mk 21 (by decide +kernel) ?_ | refine .mk 22 (by decide +kernel) ?_ | refine .mk 23 (by decide +kernel) ?_ | refine .mk 24 (by decide +kernel) ?_ | refine .mk 25 (by decide +kernel) ?_ | refine .mk 26 (by decide +kernel) ?_ | refine .mk 27 (by decide +kernel) ?_ | refine .mk 28 (by decide +kernel) ?_ | refine .mk 29 (by decide +kernel) ?_ | refine .mk 30 (by decide +kernel) ?_ | refine .mk 31 (by decide +kernel) ?_ | refine .mk 32 (by decide +kernel) ?_ | refine .mk 33 (by decide +kernel) ?_ | refine .mk 34 (by decide +kernel) ?_ | refine .mk 35 (by decide +kernel) ?_ | refine .mk 36 (by decide +kernel) ?_ | refine .mk 37 (by decide +kernel) ?_ | refine .mk 38 (by decide +kernel) ?_ | refine .mk 39 (by decide +kernel) ?_ | refine .mk 40 (by decide +kernel) ?_ | refine .mk 41 (by decide +kernel) ?_); (conv => whnf))
        | (refine HOLD.mk (by first | exact trivial | exact ⟨⟨rfl, rfl⟩, trivial⟩ | exact ⟨⟨rfl, rfl⟩, ⟨rfl, rfl⟩, trivial⟩) ?_; (conv => whnf))
        | (refine CALL0.mk _ _ _ _ _ (leL_refl _) (hT ..) rfl ?_; conv => whnf)
        | (refine CALLQ.mk _ _ _ (leL_refl _) (hT ..) rfl ?_; conv => whnf)
      split
      rotate_left
      · rename_i h
        have h' : decide (k + 1 ≤ 1073741824) = false := h
        simp at h' <;> omega
      conv => whnf
      refine ⟨⟨k + 1, hkn, fun j hj => ?_⟩, ⟨⟨leV_int ek, ⟨.inr rfl, rfl, rfl, fun j hj => ?_⟩, leV_refl _, leV_refl _, leV_refl _, leV_refl _, leV_refl _, trivial⟩, ⟨leL_refl _, leL_refl _, trivial⟩, rfl, rfl⟩, (by show b.nr - (k + 1) < b.nr - k; omega)⟩
      · by_cases e : j = k
        · rw [e, hbr]; rfl
        · exact hs2 j (by omega)
      · show (if j < k then b.tl f D j else litF 2 [.int .i64 (b.tor f k A (D + 1)).1, .int .i64 (b.tor f k A (D + 1)).2] (j - k)) = b.tl f D j
        split
        · rfl
        · have : j = k := by have : j < k + 1 := hj; omega
          subst this
          rw [Nat.sub_self]
          unfold Bl.tl
          rw [hA]; rfl
  · have q : decide ((k : Int) < b.nr) = false := decide_eq_false (by omega)
    have hkn : k = b.nr := by omega
    subst hkn
    conv => whnf
    split
    · rename_i h
      exact Bool.noConfusion ((q).symm.trans h)
    rename_i hN
    clear hN
    conv => whnf
    refine ⟨?_, rfl⟩
    rw [if_pos ((allBr_iff 0 D).2 hs2)]

theorem T_part {b : Bl} {f : Fl} (g : Good b f) {D : Nat} (hD : D < 12) (h : allBr b f 0) {k : Nat} (hk : k ≤ b.nr) :
    (-16000000000000000 ≤ sumTo (fun i => (b.tor f i (b.at f i D) (D + 1)).1) k ∧ sumTo (fun i => (b.tor f i (b.at f i D) (D + 1)).1) k ≤ 16000000000000000) ∧
    (-16000000000000000 ≤ sumTo (fun i => (b.tor f i (b.at f i D) (D + 1)).2) k ∧ sumTo (fun i => (b.tor f i (b.at f i D) (D + 1)).2) k ≤ 16000000000000000) ∧
    (-16000000000000000 ≤ sumTo (fun i => (b.thr i (b.at f i D) (D + 1)).1) k ∧ sumTo (fun i => (b.thr i (b.at f i D) (D + 1)).1) k ≤ 16000000000000000) ∧
    (-16000000000000000 ≤ sumTo (fun i => (b.thr i (b.at f i D) (D + 1)).2) k ∧ sumTo (fun i => (b.thr i (b.at f i D) (D + 1)).2) k ≤ 16000000000000000) := by
  obtain ⟨hnd, hn1, hn2, ok⟩ := g.all
  have q : ∀ i, i < k → (b.br f i D) = some (b.at f i D) := fun i hi => br_at ((allBr_iff 0 D).1 h i (by omega))
  have t := fun i (hi : i < k) => tor_bound (ok i (by omega)) hD (q i hi)
  have u := fun i (hi : i < k) => thr_bound (ok i (by omega)) hD (q i hi)
  have s1 := sumTo_bound k (fun i hi => (t i hi).1)
  have s2 := sumTo_bound k (fun i hi => (t i hi).2)
  have s3 := sumTo_bound k (fun i hi => (u i hi).1)
  have s4 := sumTo_bound k (fun i hi => (u i hi).2)
  have hb : (k : Int) * 1000000000000000 ≤ 16000000000000000 := by omega
  refine ⟨⟨?_, ?_⟩, ⟨?_, ?_⟩, ⟨?_, ?_⟩, ?_, ?_⟩ <;> omega

theorem c_rAll (up : List Ces) (b : Bl) (f : Fl) (g : Good b f) (D : Nat) (hD : D < 12) :
    Cs gl n_nacelleref03_All up [b.iv, f.iv, .int .i64 ((D + 1 : Nat) : Int)]
      (if allBr b f 0 then .tup [.agg [.int .i64 (b.F f D).1, .int .i64 (b.F f D).2], .agg [.int .i64 (b.T f D).1, .int .i64 (b.T f D).2], .bool true] else .tup [.agg [.int .i64 0, .int .i64 0], .agg [.int .i64 0, .int .i64 0], .bool false]) up := by
  obtain ⟨hnd, hn1, hn2, ok⟩ := g.all
  have hs := Int.pow_succ (2 : Int) D
  have hq := two_pos D
  have hR := fun up => c_rRings (gl := gl) up b f g D hD
  by_cases hall : allBr b f 0
  rotate_left
  · rw [if_neg hall] at hR
    refine mk h_nacelleref03_All rfl rfl ?_
    conv => whnf
    repeat first
      | (show DRAW _ _ _ _ _; (first | refine .mk 0 (by decide +kernel) ?_ | refine .mk 1 (by decide +kernel) ?_ | refine .mk 2 (by decide +kernel) ?_ | refine .mk 3 (by decide +kernel) ?_ | refine .mk 4 (by decide +kernel) ?_ | refine .mk 5 (by decide +kernel) ?_ | refine .mk 6 (by decide +kernel) ?_ | refine .mk 7 (by decide +kernel) ?_ | refine .mk 8 (by decide +kernel) ?_ | refine .mk 9 (by decide +kernel) ?_ | refine .mk 10 (by decide +kernel) ?_ | refine .mk 11 (by decide +kernel) ?_ | refine .mk 12 (by decide +kernel) ?_ | refine .mk 13 (by decide +kernel) ?_ | refine .mk 14 (by decide +kernel) ?_ | refine .mk 15 (by decide +kernel) ?_ | refine .mk 16 (by decide +kernel) ?_ | refine .mk 17 (by decide +kernel) ?_ | refine .mk 18 (by decide +kernel) ?_ | refine .mk 19 (by decide +kernel) ?_ | refine .mk 20 (by decide +kernel) ?_ | refine .mk 21 (by decide +kernel) ?_ | refine .mk 22 (by decide +kernel) ?_ | refine .mk 23 (by decide +kernel) ?_ | refine .mk 24 (by decide +kernel) ?_ | refine .mk 25 (by decide +kernel) ?_ | refine .mk 26 (by decide +kernel) ?_ | refine .mk 27 (by decide +kernel) ?_ | refine .mk 28 (by decide +kernel) ?_ | refine .mk 29 (by decide +kernel) ?_ | refine .mk 30 (by decide +kernel) ?_ | refine .mk 31 (by decide +kernel) ?_ | refine .mk 32 (by decide +kernel) ?_ | refine .mk 33 (by decide +kernel) ?_ | refine .mk 34 (by decide +kernel) ?_ | refine .mk 35 (by decide +kernel) ?_ | refine .mk 36 (by decide +kernel) ?_ | refine .mk 37 (by decide +kernel) ?_ | refine .mk 38 (by decide +kernel) ?_ | refine .mk 39 (by decide +kernel) ?_ | refine .mk 40 (by decide +kernel) ?_ | refine .mk 41 (by decide +kernel) ?_); (conv => whnf))
      | (refine HOLD.mk (by first | exact trivial | exact ⟨⟨rfl, rfl⟩, trivial⟩ | exact ⟨⟨rfl, rfl⟩, ⟨rfl, rfl⟩, trivial⟩) ?_; (conv => whnf))
      | (refine CALL0.mk _ _ _ _ _ (leL_refl _) (hR ..) rfl ?_; conv => whnf)
      | (refine CALLQ.mk _ _ _ (leL_refl _) (hR ..) rfl ?_; conv => whnf)
    refine ⟨?_, rfl⟩
    rw [if_neg hall]
  rw [if_pos hall] at hR
  have hall2 := (allBr_iff 0 D).1 hall
  rw [if_pos hall]
  refine mk h_nacelleref03_All rfl rfl ?_
  conv => whnf
  repeat first
    | (show DRAW _ _ _ _ _; (first | refine .mk 0 (by decide +kernel) ?_ | refine .mk 1 (by decide +kernel) ?_ | refine .mk 2 (by decide +kernel) ?_ | refine .mk 3 (by decide +kernel) ?_ | refine .mk 4 (by decide +kernel) ?_ | refine .mk 5 (by decide +kernel) ?_ | refine .mk 6 (by decide +kernel) ?_ | refine .mk 7 (by decide +kernel) ?_ | refine .mk 8 (by decide +kernel) ?_ | refine .mk 9 (by decide +kernel) ?_ | refine .mk 10 (by decide +kernel) ?_ | refine .mk 11 (by decide +kernel) ?_ | refine .mk 12 (by decide +kernel) ?_ | refine .mk 13 (by decide +kernel) ?_ | refine .mk 14 (by decide +kernel) ?_ | refine .mk 15 (by decide +kernel) ?_ | refine .mk 16 (by decide +kernel) ?_ | refine .mk 17 (by decide +kernel) ?_ | refine .mk 18 (by decide +kernel) ?_ | refine .mk 19 (by decide +kernel) ?_ | refine .mk 20 (by decide +kernel) ?_ | refine .mk 21 (by decide +kernel) ?_ | refine .mk 22 (by decide +kernel) ?_ | refine .mk 23 (by decide +kernel) ?_ | refine .mk 24 (by decide +kernel) ?_ | refine .mk 25 (by decide +kernel) ?_ | refine .mk 26 (by decide +kernel) ?_ | refine .mk 27 (by decide +kernel) ?_ | refine .mk 28 (by decide +kernel) ?_ | refine .mk 29 (by decide +kernel) ?_ | refine .mk 30 (by decide +kernel) ?_ | refine .mk 31 (by decide +kernel) ?_ | refine .mk 32 (by decide +kernel) ?_ | refine .mk 33 (by decide +kernel) ?_ | refine .mk 34 (by decide +kernel) ?_ | refine .mk 35 (by decide +kernel) ?_ | refine .mk 36 (by decide +kernel) ?_ | refine .mk 37 (by decide +kernel) ?_ | refine .mk 38 (by decide +kernel) ?_ | refine .mk 39 (by decide +kernel) ?_ | refine .mk 40 (by decide +kernel) ?_ | refine .mk 41 (by decide +kernel) ?_); (conv => whnf))
    | (refine HOLD.mk (by first | exact trivial | exact ⟨⟨rfl, rfl⟩, trivial⟩ | exact ⟨⟨rfl, rfl⟩, ⟨rfl, rfl⟩, trivial⟩) ?_; (conv => whnf))
    | (refine CALL0.mk _ _ _ _ _ (leL_refl _) (hR ..) rfl ?_; conv => whnf)
    | (refine CALLQ.mk _ _ _ (leL_refl _) (hR ..) rfl ?_; conv => whnf)
  refine .mk (α := {k : Nat // k ≤ b.nr}) (fun k => ⟨[(13, .int .i64 k.1), (9, .lst none 2 b.nr (b.tl f D)), (2, .int .i64 ((D + 1 : Nat) : Int)), (3, .ptr 0 3 0), (4, .ptr 0 4 0), (6, .ptr 0 6 0), (7, .ptr 0 7 0), (11, .ptr 0 11 0), (12, .ptr 0 12 0), (8, .bool false)],
    [(12, [.int .i64 (sumTo (fun i => (b.tor f i (b.at f i D) (D + 1)).1) k.1), .int .i64 (sumTo (fun i => (b.tor f i (b.at f i D) (D + 1)).2) k.1)]), (11, [.int .i64 (sumTo (fun i => (b.thr i (b.at f i D) (D + 1)).1) k.1), .int .i64 (sumTo (fun i => (b.thr i (b.at f i D) (D + 1)).2) k.1)]),
     (7, [.int .i64 0, .int .i64 0]), (6, [.int .i64 0, .int .i64 0]), (4, [.int .i64 f.w, .int .i64 f.s, .int .i64 f.p]), (3, [.lst none 1 b.nl fun i => [.int .i64 (b.lf i)], .lst none 1 b.nd fun i => [.int .i64 (b.df i)], .lst none 4 b.nr fun i => [.int .i64 (b.r1 i), .int .i64 (b.r2 i), .int .i64 (b.r3 i), .int .i64 (b.r4 i)]])], up⟩)
    (fun k => b.nr - k.1) ⟨0, Nat.zero_le _⟩ ⟨?_, ?_, rfl, rfl⟩ ?_
  · exact ⟨leV_refl _, leV_view _ _ _ _, leV_refl _, leV_refl _, leV_refl _, leV_refl _, leV_refl _, leV_refl _, leV_refl _, leV_refl _, trivial⟩
  · exact ⟨leL_refl _, leL_refl _, leL_refl _, leL_refl _, leL_refl _, leL_refl _, trivial⟩
  rintro ⟨k, hk⟩
  by_cases hkn : k < b.nr
  · have q : decide ((k : Int) < b.nr) = true := decide_eq_true (by omega)
    have ek : w64 ((k : Int) + 1) = ((k + 1 : Nat) : Int) := by rw [w64, wrap_in] <;> omega
    have hF := fun up => c_rFind (gl := gl) up b f k (ok k hkn) D hD
    have hbr := br_at (hall2 k hkn)
    obtain ⟨A0, A1⟩ := br_rng (ok k hkn) hbr
    have hT := fun up => c_rThrust (gl := gl) up b f k (ok k hkn) (b.at f k D) (D + 1) (by omega) A0 (by omega)
    rw [hbr] at hF
    have b1 := T_part g hD hall (k := k) hk
    have b2 := T_part g hD hall (k := k + 1) hkn
    simp only [sumTo] at b2
    conv => whnf
    split
    rotate_left
    · rename_i h
      exact Bool.noConfusion ((q).symm.trans h)
    rename_i hN
    clear hN
    conv => whnf
    first
      | refine .mk 0 (by decide +kernel) ?_
      | refine .mk 1 (by decide +kernel) ?_
      | refine .mk 2 (by decide +kernel) ?_
      | refine .mk 3 (by decide +kernel) ?_
      | refine .mk 4 (by decide +kernel) ?_
      | refine .mk 5 (by decide +kernel) ?_
      | refine .mk 6 (by decide +kernel) ?_
      | refine .mk 7 (by decide +kernel) ?_
      | refine .mk 8 (by decide +kernel) ?_
      | refine .mk 9 (by decide +kernel) ?_
      | refine .mk 10 (by decide +kernel) ?_
      | refine .mk 11 (by decide +kernel) ?_
      | refine .mk 12 (by decide +kernel) ?_
      | refine .mk 13 (by decide +kernel) ?_
      | refine .mk 14 (by decide +kernel) ?_
      | refine .mk 15 (by decide +kernel) ?_
      | refine .mk 16 (by decide +kernel) ?_
      | refine .mk 17 (by decide +kernel) ?_
      | refine .mk 18 (by decide +kernel) ?_
      | refine .mk 19 (by decide +kernel) ?_
      | refine .mk 20 (by decide +kernel) ?_
      | refine .mk 21 (by decide +kernel) ?_
      | refine .mk 22 (by decide +kernel) ?_
      | refine .mk 23 (by decide +kernel) ?_
      | refine .mk 24 (by decide +kernel) ?_
      | refine .mk 25 (by decide +kernel) ?_
      | refine .mk 26 (by decide +kernel) ?_
      | refine .mk 27 (by decide +kernel) ?_
      | refine .mk 28 (by decide +kernel) ?_
      | refine .mk 29 (by decide +kernel) ?_
      | refine .mk 30 (by decide +kernel) ?_
      | refine .mk 31 (by decide +kernel) ?_
      | refine .mk 32 (by decide +kernel) ?_
      | refine .mk 33 (by decide +kernel) ?_
      | refine .mk 34 (by decide +kernel) ?_
      | refine .mk 35 (by decide +kernel) ?_
      | refine .mk 36 (by decide +kernel) ?_
      | refine .mk 37 (by decide +kernel) ?_
      | refine .mk 38 (by decide +kernel) ?_
      | refine .mk 39 (by decide +kernel) ?_
      | refine .mk 40 (by decide +kernel) ?_
      | refine .mk 41 (by decide +kernel) ?_
    conv => whnf
    split
    rotate_left
    · rename_i h
      exact Bool.noConfusion ((q).symm.trans h)
    rename_i hN
    clear hN
    conv => whnf
    repeat first
      | (show DRAW _ _ _ _ _; (first | refine .mk 0 (by decide +kernel) ?_ | refine .mk 1 (by decide +kernel) ?_ | refine .mk 2 (by decide +kernel) ?_ | refine .mk 3 (by decide +kernel) ?_ | refine .mk 4 (by decide +kernel) ?_ | refine .mk 5 (by decide +kernel) ?_ | refine .mk 6 (by decide +kernel) ?_ | refine .mk 7 (by decide +kernel) ?_ | refine .mk 8 (by decide +kernel) ?_ | refine .mk 9 (by decide +kernel) ?_ | refine .mk 10 (by decide +kernel) ?_ | refine .mk 11 (by decide +kernel) ?_ | refine .mk 12 (by decide +kernel) ?_ | refine .mk 13 (by decide +kernel) ?_ | refine .mk 14 (by decide +kernel) ?_ | refine .mk 15 (by decide +kernel) ?_ | refine .mk 16 (by decide +kernel) ?_ | refine .mk 17 (by decide +kernel) ?_ | refine .mk 18 (by decide +kernel) ?_ | refine .mk 19 (by decide +kernel) ?_ | refine .mk 20 (by decide +kernel) ?_ | refine .mk 21 (by decide +kernel) ?_ | refine .mk 22 (by decide +kernel) ?_ | refine .mk 23 (by decide +kernel) ?_ | refine .mk 24 (by decide +kernel) ?_ | refine .mk 25 (by decide +kernel) ?_ | refine .mk 26 (by decide +kernel) ?_ | refine .mk 27 (by decide +kernel) ?_ | refine .mk 28 (by decide +kernel) ?_ | refine .mk 29 (by decide +kernel) ?_ | refine .mk 30 (by decide +kernel) ?_ | refine .mk 31 (by decide +kernel) ?_ | refine .mk 32 (by decide +kernel) ?_ | refine .mk 33 (by decide +kernel) ?_ | refine .mk 34 (by decide +kernel) ?_ | refine .mk 35 (by decide +kernel) ?_ | refine .mk 36 (by decide +kernel) ?_ | refine .mk 37 (by decide +kernel) ?_ | refine .mk 38 (by decide +kernel) ?_ | refine .mk 39 (by decide +kernel) ?_ | refine .mk 40 (by decide +kernel) ?_ | refine .mk 41 (by decide +kernel) ?_); (conv => whnf))
      | (refine HOLD.mk (by first | exact trivial | exact ⟨⟨rfl, rfl⟩, trivial⟩ | exact ⟨⟨rfl, rfl⟩, ⟨rfl, rfl⟩, trivial⟩) ?_; (conv => whnf))
      | (refine CALL0.mk _ _ _ _ _ (leL_refl _) (hF ..) rfl ?_; conv => whnf)
      | (refine CALLQ.mk _ _ _ (leL_refl _) (hF ..) rfl ?_; conv => whnf)
    split
    rotate_left
    · rename_i h
      exact Bool.noConfusion ((q).symm.trans h)
    rename_i hN
    clear hN
    conv => whnf
    repeat first
      | (show DRAW _ _ _ _ _; (first | refine .mk 0 (by decide +kernel) ?_ | refine .mk 1 (by decide +kernel) ?_ | refine .mk 2 (by decide +kernel) ?_ | refine .mk 3 (by decide +kernel) ?_ | refine .mk 4 (by decide +kernel) ?_ | refine .mk 5 (by decide +kernel) ?_ | refine .mk 6 (by decide +kernel) ?_ | refine .mk 7 (by decide +kernel) ?_ | refine .mk 8 (by decide +kernel) ?_ | refine .mk 9 (by decide +kernel) ?_ | refine .mk 10 (by decide +kernel) ?_ | refine .mk 11 (by decide +kernel) ?_ | refine .mk 12 (by decide +kernel) ?_ | refine .mk 13 (by decide +kernel) ?_ | refine .mk 14 (by decide +kernel) ?_ | refine .mk 15 (by decide +kernel) ?_ | refine .mk 16 (by decide +kernel) ?_ | refine .mk 17 (by decide +kernel) ?_ | refine .mk 18 (by decide +kernel) ?_ | refine .mk 19 (by decide +kernel) ?_ | refine .mk 20 (by decide +kernel) ?_ | refine .mk 21 (by decide +kernel) ?_ | refine .mk 22 (by decide +kernel) ?_ | refine .mk 23 (by decide +kernel) ?_ | refine .mk 24 (by decide +kernel) ?_ | refine .mk 25 (by decide +kernel) ?_ | refine .mk 26 (by decide +kernel) ?_ | refine .mk 27 (by decide +kernel) ?_ | refine .mk 28 (by decide +kernel) ?_ | refine .mk 29 (by decide +kernel) ?_ | refine .mk 30 (by decide +kernel) ?_ | refine .mk 31 (by decide +kernel) ?_ | refine .mk 32 (by decide +kernel) ?_ | refine .mk 33 (by decide +kernel) ?_ | refine .mk 34 (by decide +kernel) ?_ | refine .mk 35 (by decide +kernel) ?_ | refine .mk 36 (by decide +kernel) ?_ | refine .mk 37 (by decide +kernel) ?_ | refine .mk 38 (by decide +kernel) ?_ | refine .mk 39 (by decide +kernel) ?_ | refine .mk 40 (by decide +kernel) ?_ | refine .mk 41 (by decide +kernel) ?_); (conv => whnf))
      | (refine HOLD.mk (by first | exact trivial | exact ⟨⟨rfl, rfl⟩, trivial⟩ | exact ⟨⟨rfl, rfl⟩, ⟨rfl, rfl⟩, trivial⟩) ?_; (conv => whnf))
      | (refine CALL0.mk _ _ _ _ _ (leL_refl _) (hT ..) rfl ?_; conv => whnf)
      | (refine CALLQ.mk _ _ _ (leL_refl _) (hT ..) rfl ?_; conv => whnf)
    refine DRAW.mkH 10 [16] [7, 8] [9] (by decide +kernel) ?_
    conv => whnf
    repeat first
      | (show DRAW _ _ _ _ _; (first | refine .mk 0 (by decide +kernel) ?_ | refine .mk 1 (by decide +kernel) ?_ | refine .mk 2 (by decide +kernel) ?_ | refine .mk 3 (by decide +kernel) ?_ | refine .mk 4 (by decide +kernel) ?_ | refine .mk 5 (by decide +kernel) ?_ | refine .mk 6 (by decide +kernel) ?_ | refine .mk 7 (by decide +kernel) ?_ | refine .mk 8 (by decide +kernel) ?_ | refine .mk 9 (by decide +kernel) ?_ | refine .mk 10 (by decide +kernel) ?_ | refine .mk 11 (by decide +kernel) ?_ | refine .mk 12 (by decide +kernel) ?_ | refine .mk 13 (by decide +kernel) ?_ | refine .mk 14 (by decide +kernel) ?_ | refine .mk 15 (by decide +kernel) ?_ | refine .mk 16 (by decide +kernel) ?_ | refine .mk 17 (by decide +kernel) ?_ | refine .mk 18 (by decide +kernel) ?_ | refine .mk 19 (by decide +kernel) ?_ | refine .mk 20 (by decide +kernel) ?_ | refine .mk 21 (by decide +kernel) ?_ | refine .mk 22 (by decide +kernel) ?_ | refine .mk 23 (by decide +kernel) ?_ | refine .mk 24 (by decide +kernel) ?_ | refine .mk 25 (by decide +kernel) ?_ | refine .mk 26 (by decide +kernel) ?_ | refine .mk 27 (by decide +kernel) ?_ | refine .mk 28 (by decide +kernel) ?_ | refine .mk 29 (by decide +kernel) ?_ | refine .mk 30 (by decide +kernel) ?_ | refine .mk 31 (by decide +kernel) ?_ | refine .mk 32 (by decide +kernel) ?_ | refine .mk 33 (by decide +kernel) ?_ | refine .mk 34 (by decide +kernel) ?_ | refine .mk 35 (by decide +kernel) ?_ | refine .mk 36 (by decide +kernel) ?_ | refine .mk 37 (by decide +kernel) ?_ | refine .mk 38 (by decide +kernel) ?_ | refine .mk 39 (by decide +kernel) ?_ | refine .mk 40 (by decide +kernel) ?_ | refine .mk 41 (by decide +kernel) ?_); (conv => whnf))
      | (refine HOLD.mk (by first | exact trivial | exact ⟨⟨rfl, rfl⟩, trivial⟩ | exact ⟨⟨rfl, rfl⟩, ⟨rfl, rfl⟩, trivial⟩) ?_; (conv => whnf))
      | (refine CALL0.mk _ _ _ _ _ (leL_refl _) (hT ..) rfl ?_; conv => whnf)
      | (refine CALLQ.mk _ _ _ (leL_refl _) (hT ..) rfl ?_; conv => whnf)
    refine DRAW.mkH 16 [] [10, 11, 12, 13, 14] [15] (by decide +kernel) ?_
    conv => whnf
    repeat first
      | (show DRAW _ _ _ _ _; (first | refine .mk 0 (by decide +kernel) ?_ | refine .mk 1 (by decide +kernel) ?_ | refine .mk 2 (by decide +kernel) ?_ | refine .mk 3 (by decide +kernel) ?_ | refine .mk 4 (by decide +kernel) ?_ | refine .mk 5 (by decide +kernel) ?_ | refine .mk 6 (by decide +kernel) ?_ | refine .mk 7 (by decide +kernel) ?_ | refine .mk 8 (by decide +kernel) ?_ | refine .mk 9 (by decide +kernel) ?_ | refine .mk 10 (by decide +kernel) ?_ | refine .mk 11 (by decide +kernel) ?_ | refine .mk 12 (by decide +kernel) ?_ | refine .mk 13 (by decide +kernel) ?_ | refine .mk 14 (by decide +kernel) ?_ | refine .mk 15 (by decide +kernel) ?_ | refine .mk 16 (by decide +kernel) ?_ | refine .mk 17 (by decide +kernel) ?_ | refine .mk 18 (by decide +kernel) ?_ | refine .mk 19 (by decide +kernel) ?_ | refine .mk 20 (by decide +kernel) ?_ | refine .mk 21 (by decide +kernel) ?_ | refine .mk 22 (by decide +kernel) ?_ | refine .mk 23 (by decide +kernel) ?_ | refine .mk 24 (by decide +kernel) ?_ | refine .mk 25 (by decide +kernel) ?_ | refine .mk 26 (by decide +kernel) ?_ | refine .mk 27 (by decide +kernel) ?_ | refine .mk 28 (by decide +kernel) ?_ | refine .mk 29 (by decide +kernel) ?_ | refine .mk 30 (by decide +kernel) ?_ | refine .mk 31 (by decide +kernel) ?_ | refine .mk 32 (by decide +kernel) ?_ | refine .mk 33 (by decide +kernel) ?_ | refine .mk 34 (by decide +kernel) ?_ | refine .mk 35 (by decide +kernel) ?_ | refine .mk 36 (by decide +kernel) ?_ | refine .mk 37 (by decide +kernel) ?_ | refine .mk 38 (by decide +kernel) ?_ | refine .mk 39 (by decide +kernel) ?_ | refine .mk 40 (by decide +kernel) ?_ | refine .mk 41 (by decide +kernel) ?_); (conv => whnf))
      | (refine HOLD.mk (by first | exact trivial | exact ⟨⟨rfl, rfl⟩, trivial⟩ | exact ⟨⟨rfl, rfl⟩, ⟨rfl, rfl⟩, trivial⟩) ?_; (conv => whnf))
      | (refine CALL0.mk _ _ _ _ _ (leL_refl _) (hT ..) rfl ?_; conv => whnf)
      | (refine CALLQ.mk _ _ _ (leL_refl _) (hT ..) rfl ?_; conv => whnf)
    split
    rotate_left
    · rename_i h
      exact Bool.noConfusion ((q).symm.trans h)
    rename_i hN
    clear hN
    conv => whnf
    split
    rotate_left
    · rename_i h
      exact Bool.noConfusion ((q).symm.trans h)
    rename_i hN
    clear hN
    conv => whnf
    repeat first
      | (show DRAW _ _ _ _ _; (first | refine .mk 0 (by decide +kernel) ?_ | refine .mk 1 (by decide +kernel) ?_ | refine .mk 2 (by decide +kernel) ?_ | refine .mk 3 (by decide +kernel) ?_ | refine .mk 4 (by decide +kernel) ?_ | refine .mk 5 (by decide +kernel) ?_ | refine .mk 6 (by decide +kernel) ?_ | refine .mk 7 (by decide +kernel) ?_ | refine .mk 8 (by decide +kernel) ?_ | refine .mk 9 (by decide +kernel) ?_ | refine .mk 10 (by decide +kernel) ?_ | refine .mk 11 (by decide +kernel) ?_ | refine .mk 12 (by decide +kernel) ?_ | refine .mk 13 (by decide +kernel) ?_ | refine .mk 14 (by decide +kernel) ?_ | refine .mk 15 (by decide +kernel) ?_ | refine .mk 16 (by decide +kernel) ?_ | refine .mk 17 (by decide +kernel) ?_ | refine .mk 18 (by decide +kernel) ?_ | refine .mk 19 (by decide +kernel) ?_ | refine .mk 20 (by decide +kernel) ?_ | refine .mk 21 (by decide +kernel) ?_ | refine .mk 22 (by decide +kernel) ?_ | refine .mk 23 (by decide +kernel) ?_ | refine .mk 24 (by decide +kernel) ?_ | refine .mk 25 (by decide +kernel) ?_ | refine .mk 26 (by decide +kernel) ?_ | refine .mk 27 (by decide +kernel) ?_ | refine .mk 28 (by decide +kernel) ?_ | refine .mk 29 (by decide +kernel) ?_ | refine .mk 30 (by decide +kernel) ?_ | refine .mk 31 (by decide +kernel) ?_ | refine .mk 32 (by decide +kernel) ?_ | refine .mk 33 (by decide +kernel) ?_ | refine .mk 34 (by decide +kernel) ?_ | refine .mk 35 (by decide +kernel) ?_ | refine .mk 36 (by decide +kernel) ?_ | refine .mk 37 (by decide +kernel) ?_ | refine .mk 38 (by decide +kernel) ?_ | refine .mk 39 (by decide +kernel) ?_ | refine .mk 40 (by decide +kernel) ?_ | refine .mk 41 (by decide +kernel) ?_); (conv => whnf))
      | (refine HOLD.mk (by first | exact trivial | exact ⟨⟨rfl, rfl⟩, trivial⟩ | exact ⟨⟨rfl, rfl⟩, ⟨rfl, rfl⟩, trivial⟩) ?_; (conv => whnf))
      | (refine CALL0.mk _ _ _ _ _ (leL_refl _) (hT ..) rfl ?_; conv => whnf)
      | (refine CALLQ.mk _ _ _ (leL_refl _) (hT ..) rfl ?_; conv => whnf)
    refine ⟨⟨k + 1, hkn⟩, ⟨⟨leV_int ek, leV_refl _, leV_refl _, leV_refl _, leV_refl _, leV_refl _, leV_refl _, leV_refl _, leV_refl _, leV_refl _, trivial⟩, ⟨⟨leV_int ?_, leV_int ?_, trivial⟩, ⟨leV_int ?_, leV_int ?_, trivial⟩, leL_refl _, leL_refl _, leL_refl _, leL_refl _, trivial⟩, rfl, rfl⟩, (by show b.nr - (k + 1) < b.nr - k; omega)⟩
    · show w64 (sumTo _ k + (b.tor f k (b.at f k D) (D + 1)).1) = sumTo _ (k + 1)
      simp only [sumTo]; rw [w64, wrap_in] <;> omega
    · show w64 (sumTo _ k + (b.tor f k (b.at f k D) (D + 1)).2) = sumTo _ (k + 1)
      simp only [sumTo]; rw [w64, wrap_in] <;> omega
    · show w64 (sumTo _ k + (b.thr k (b.at f k D) (D + 1)).1) = sumTo _ (k + 1)
      simp only [sumTo]; rw [w64, wrap_in] <;> omega
    · show w64 (sumTo _ k + (b.thr k (b.at f k D) (D + 1)).2) = sumTo _ (k + 1)
      simp only [sumTo]; rw [w64, wrap_in] <;> omega
  · have q : decide ((k : Int) < b.nr) = false := decide_eq_false (by omega)
    have hT0 := c_power (gl := gl)
    have hkn : k = b.nr := by omega
    subst hkn
    conv => whnf
    split
    · rename_i h
      exact Bool.noConfusion ((q).symm.trans h)
    rename_i hN
    clear hN
    conv => whnf
    refine DRAW.mkH 2 [12] [1] [] (by decide +kernel) ?_
    conv => whnf
    repeat first
      | (show DRAW _ _ _ _ _; (first | refine .mk 0 (by decide +kernel) ?_ | refine .mk 1 (by decide +kernel) ?_ | refine .mk 2 (by decide +kernel) ?_ | refine .mk 3 (by decide +kernel) ?_ | refine .mk 4 (by decide +kernel) ?_ | refine .mk 5 (by decide +kernel) ?_ | refine .mk 6 (by decide +kernel) ?_ | refine .mk 7 (by decide +kernel) ?_ | refine .mk 8 (by decide +kernel) ?_ | refine .mk 9 (by decide +kernel) ?_ | refine .mk 10 (by decide +kernel) ?_ | refine .mk 11 (by decide +kernel) ?_ | refine .mk 12 (by decide +kernel) ?_ | refine .mk 13 (by decide +kernel) ?_ | refine .mk 14 (by decide +kernel) ?_ | refine .mk 15 (by decide +kernel) ?_ | refine .mk 16 (by decide +kernel) ?_ | refine .mk 17 (by decide +kernel) ?_ | refine .mk 18 (by decide +kernel) ?_ | refine .mk 19 (by decide +kernel) ?_ | refine .mk 20 (by decide +kernel) ?_ | refine .mk 21 (by decide +kernel) ?_ | refine .mk 22 (by decide +kernel) ?_ | refine .mk 23 (by decide +kernel) ?_ | refine .mk 24 (by decide +kernel) ?_ | refine .mk 25 (by decide +kernel) ?_ | refine .mk 26 (by decide +kernel) ?_ | refine .mk 27 (by decide +kernel) ?_ | refine .mk 28 (by decide +kernel) ?_ | refine .mk 29 (by decide +kernel) ?_ | refine .mk 30 (by decide +kernel) ?_ | refine .mk 31 (by decide +kernel) ?_ | refine .mk 32 (by decide +kernel) ?_ | refine .mk 33 (by decide +kernel) ?_ | refine .mk 34 (by decide +kernel) ?_ | refine .mk 35 (by decide +kernel) ?_ | refine .mk 36 (by decide +kernel) ?_ | refine .mk 37 (by decide +kernel) ?_ | refine .mk 38 (by decide +kernel) ?_ | refine .mk 39 (by decide +kernel) ?_ | refine .mk 40 (by decide +kernel) ?_ | refine .mk 41 (by decide +kernel) ?_); (conv => whnf))
      | (refine HOLD.mk (by first | exact trivial | exact ⟨⟨rfl, rfl⟩, trivial⟩ | exact ⟨⟨rfl, rfl⟩, ⟨rfl, rfl⟩, trivial⟩) ?_; (conv => whnf))
      | (refine CALL0.mk _ _ _ _ _ (leL_refl _) (hT0 ..) rfl ?_; conv => whnf)
      | (refine CALLQ.mk _ _ _ (leL_refl _) (hT0 ..) rfl ?_; conv => whnf)
    exact ⟨rfl, rfl⟩
end Go.Proofs.YtllmejkmogepjaaGreatDoor.Ix

/-
  Rz4: contracts of the reference's pitches: CheckPitches, pitched, Best, Limit.
-/
namespace Go.Proofs.YtllmejkmogepjaaGreatDoor.Ix
open Go.Proofs
set_option maxRecDepth 100000
set_option linter.unusedVariables false
set_option linter.unusedSimpArgs false
variable {gl : Nat → IV}

theorem c_rCheckPitches (up : List Ces) (x y : Int) : Cs gl n_nacelleref03_CheckPitches up [.int .i64 x, .int .i64 y] (.int .i64 (pitchErr x y)) up := by
  refine mk h_nacelleref03_CheckPitches rfl rfl ?_
  have hf := fun up => c_rfl2 (gl := gl) up (withinS x (-64) 64) (withinS y (-64) 64)
  have e : pitchErr x y = bif orE (withinS x (-64) 64) (withinS y (-64) 64) != 0 then orE (withinS x (-64) 64) (withinS y (-64) 64) else bif decide (y < x) then 11 else 0 := by
    unfold pitchErr
    rw [← orE_assoc]; rfl
  rw [e]
  obtain ⟨E, hE⟩ : ∃ E, E = orE (withinS x (-64) 64) (withinS y (-64) 64) := ⟨_, rfl⟩
  rw [← hE] at hf ⊢
  by_cases z : E = 0
  · rw [z] at hf ⊢
    cases q : decide (y < x) with
    | true =>
      conv => whnf
      repeat first
        | (show DRAW _ _ _ _ _; (first | refine .mk 0 (by decide +kernel) ?_ | refine .mk 1 (by decide +kernel) ?_ | refine .mk 2 (by decide +kernel) ?_ | refine .mk 3 (by decide +kernel) ?_ | refine .mk 4 (by decide +kernel) ?_ | refine .mk 5 (by decide +kernel) ?_ | refine .mk 6 (by decide +kernel) ?_ | refine .mk 7 (by decide +kernel) ?_ | refine .mk 8 (by decide +kernel) ?_ | refine .mk 9 (by decide +kernel) ?_ | refine .mk 10 (by decide +kernel) ?_ | refine .mk 11 (by decide +kernel) ?_ | refine .mk 12 (by decide +kernel) ?_ | refine .mk 13 (by decide +kernel) ?_ | refine .mk 14 (by decide +kernel) ?_ | refine .mk 15 (by decide +kernel) ?_ | refine .mk 16 (by decide +kernel) ?_ | refine .mk 17 (by decide +kernel) ?_ | refine .mk 18 (by decide +kernel) ?_ | refine .mk 19 (by decide +kernel) ?_ | refine .mk 20 (by decide +kernel) ?_ | refine .mk 21 (by decide +kernel) ?_ | refine .mk 22 (by decide +kernel) ?_ | refine .mk 23 (by decide +kernel) ?_ | refine .mk 24 (by decide +kernel) ?_ | refine .mk 25 (by decide +kernel) ?_ | refine .mk 26 (by decide +kernel) ?_ | refine .mk 27 (by decide +kernel) ?_ | refine .mk 28 (by decide +kernel) ?_ | refine .mk 29 (by decide +kernel) ?_ | refine .mk 30 (by decide +kernel) ?_ | refine .mk 31 (by decide +kernel) ?_ | refine .mk 32 (by decide +kernel) ?_ | refine .mk 33 (by decide +kernel) ?_ | refine .mk 34 (by decide +kernel) ?_ | refine .mk 35 (by decide +kernel) ?_ | refine .mk 36 (by decide +kernel) ?_ | refine .mk 37 (by decide +kernel) ?_ | refine .mk 38 (by decide +kernel) ?_ | refine .mk 39 (by decide +kernel) ?_ | refine .mk 40 (by decide +kernel) ?_ | refine .mk 41 (by decide +kernel) ?_); (conv => whnf))
        | (refine HOLD.mk (by first | exact trivial | exact ⟨⟨rfl, rfl⟩, trivial⟩ | exact ⟨⟨rfl, rfl⟩, ⟨rfl, rfl⟩, trivial⟩) ?_; (conv => whnf))
        | (refine CALL0.mk _ _ _ _ _ (leL_refl _) (c_CheckAngle ..) rfl ?_; conv => whnf)
        | (refine CALLQ.mk _ _ _ (leL_refl _) (c_CheckAngle ..) rfl ?_; conv => whnf)
        | (refine CALL0.mk _ _ _ _ _ (leL_refl _) (hf ..) rfl ?_; conv => whnf)
        | (refine CALLQ.mk _ _ _ (leL_refl _) (hf ..) rfl ?_; conv => whnf)
      split
      rotate_left
      · rename_i h
        exact Bool.noConfusion ((q).symm.trans h)
      rename_i hN
      clear hN
      conv => whnf
      exact ⟨rfl, rfl⟩
    | false =>
      conv => whnf
      repeat first
        | (show DRAW _ _ _ _ _; (first | refine .mk 0 (by decide +kernel) ?_ | refine .mk 1 (by decide +kernel) ?_ | refine .mk 2 (by decide +kernel) ?_ | refine .mk 3 (by decide +kernel) ?_ | refine .mk 4 (by decide +kernel) ?_ | refine .mk 5 (by decide +kernel) ?_ | refine .mk 6 (by decide +kernel) ?_ | refine .mk 7 (by decide +kernel) ?_ | refine .mk 8 (by decide +kernel) ?_ | refine .mk 9 (by decide +kernel) ?_ | refine .mk 10 (by decide +kernel) ?_ | refine .mk 11 (by decide +kernel) ?_ | refine .mk 12 (by decide +kernel) ?_ | refine .mk 13 (by decide +kernel) ?_ | refine .mk 14 (by decide +kernel) ?_ | refine .mk 15 (by decide +kernel) ?_ | refine .mk 16 (by decide +kernel) ?_ | refine .mk 17 (by decide +kernel) ?_ | refine .mk 18 (by decide +kernel) ?_ | refine .mk 19 (by decide +kernel) ?_ | refine .mk 20 (by decide +kernel) ?_ | refine .mk 21 (by decide +kernel) ?_ | refine .mk 22 (by decide +kernel) ?_ | refine .mk 23 (by decide +kernel) ?_ | refine .mk 24 (by decide +kernel) ?_ | refine .mk 25 (by decide +kernel) ?_ | refine .mk 26 (by decide +kernel) ?_ | refine .mk 27 (by decide +kernel) ?_ | refine .mk 28 (by decide +kernel) ?_ | refine .mk 29 (by decide +kernel) ?_ | refine .mk 30 (by decide +kernel) ?_ | refine .mk 31 (by decide +kernel) ?_ | refine .mk 32 (by decide +kernel) ?_ | refine .mk 33 (by decide +kernel) ?_ | refine .mk 34 (by decide +kernel) ?_ | refine .mk 35 (by decide +kernel) ?_ | refine .mk 36 (by decide +kernel) ?_ | refine .mk 37 (by decide +kernel) ?_ | refine .mk 38 (by decide +kernel) ?_ | refine .mk 39 (by decide +kernel) ?_ | refine .mk 40 (by decide +kernel) ?_ | refine .mk 41 (by decide +kernel) ?_); (conv => whnf))
        | (refine HOLD.mk (by first | exact trivial | exact ⟨⟨rfl, rfl⟩, trivial⟩ | exact ⟨⟨rfl, rfl⟩, ⟨rfl, rfl⟩, trivial⟩) ?_; (conv => whnf))
        | (refine CALL0.mk _ _ _ _ _ (leL_refl _) (c_CheckAngle ..) rfl ?_; conv => whnf)
        | (refine CALLQ.mk _ _ _ (leL_refl _) (c_CheckAngle ..) rfl ?_; conv => whnf)
        | (refine CALL0.mk _ _ _ _ _ (leL_refl _) (hf ..) rfl ?_; conv => whnf)
        | (refine CALLQ.mk _ _ _ (leL_refl _) (hf ..) rfl ?_; conv => whnf)
      split
      · rename_i h
        exact Bool.noConfusion ((q).symm.trans h)
      rename_i hN
      clear hN
      conv => whnf
      exact ⟨rfl, rfl⟩
  · have q : (E != 0) = true := by simpa using z
    rw [q]
    conv => whnf
    repeat first
      | (show DRAW _ _ _ _ _; (first | refine .mk 0 (by decide +kernel) ?_ | refine .mk 1 (by decide +kernel) ?_ | refine .mk 2 (by decide +kernel) ?_ | refine .mk 3 (by decide +kernel) ?_ | refine .mk 4 (by decide +kernel) ?_ | refine .mk 5 (by decide +kernel) ?_ | refine .mk 6 (by decide +kernel) ?_ | refine .mk 7 (by decide +kernel) ?_ | refine .mk 8 (by decide +kernel) ?_ | refine .mk 9 (by decide +kernel) ?_ | refine .mk 10 (by decide +kernel) ?_ | refine .mk 11 (by decide +kernel) ?_ | refine .mk 12 (by decide +kernel) ?_ | refine .mk 13 (by decide +kernel) ?_ | refine .mk 14 (by decide +kernel) ?_ | refine .mk 15 (by decide +kernel) ?_ | refine .mk 16 (by decide +kernel) ?_ | refine .mk 17 (by decide +kernel) ?_ | refine .mk 18 (by decide +kernel) ?_ | refine .mk 19 (by decide +kernel) ?_ | refine .mk 20 (by decide +kernel) ?_ | refine .mk 21 (by decide +kernel) ?_ | refine .mk 22 (by decide +kernel) ?_ | refine .mk 23 (by decide +kernel) ?_ | refine .mk 24 (by decide +kernel) ?_ | refine .mk 25 (by decide +kernel) ?_ | refine .mk 26 (by decide +kernel) ?_ | refine .mk 27 (by decide +kernel) ?_ | refine .mk 28 (by decide +kernel) ?_ | refine .mk 29 (by decide +kernel) ?_ | refine .mk 30 (by decide +kernel) ?_ | refine .mk 31 (by decide +kernel) ?_ | refine .mk 32 (by decide +kernel) ?_ | refine .mk 33 (by decide +kernel) ?_ | refine .mk 34 (by decide +kernel) ?_ | refine .mk 35 (by decide +kernel) ?_ | refine .mk 36 (by decide +kernel) ?_ | refine .mk 37 (by decide +kernel) ?_ | refine .mk 38 (by decide +kernel) ?_ | refine .mk 39 (by decide +kernel) ?_ | refine .mk 40 (by decide +kernel) ?_ | refine .mk 41 (by decide +kernel) ?_); (conv => whnf))
      | (refine HOLD.mk (by first | exact trivial | exact ⟨⟨rfl, rfl⟩, trivial⟩ | exact ⟨⟨rfl, rfl⟩, ⟨rfl, rfl⟩, trivial⟩) ?_; (conv => whnf))
      | (refine CALL0.mk _ _ _ _ _ (leL_refl _) (c_CheckAngle ..) rfl ?_; conv => whnf)
      | (refine CALLQ.mk _ _ _ (leL_refl _) (c_CheckAngle ..) rfl ?_; conv => whnf)
      | (refine CALL0.mk _ _ _ _ _ (leL_refl _) (hf ..) rfl ?_; conv => whnf)
      | (refine CALLQ.mk _ _ _ (leL_refl _) (hf ..) rfl ?_; conv => whnf)
    split
    rotate_left
    · rename_i h
      exact Bool.noConfusion ((q).symm.trans h)
    rename_i hN
    clear hN
    conv => whnf
    exact ⟨rfl, rfl⟩

theorem c_rpitched (up : List Ces) (f : Fl) (p : Int) : Cs gl n_nacelleref03_pitched up [f.iv, .int .i64 p] (f.at p).iv up := by
  refine mk h_nacelleref03_pitched rfl rfl ?_
  conv => whnf
  exact ⟨rfl, rfl⟩

def allO (F : Int × Int) (o : Option (Int × Int)) : IV := match o with
  | some t => .tup [.agg [.int .i64 F.1, .int .i64 F.2], .agg [.int .i64 t.1, .int .i64 t.2], .bool true]
  | none => .tup [.agg [.int .i64 0, .int .i64 0], .agg [.int .i64 0, .int .i64 0], .bool false]

theorem c_rAllO (up : List Ces) (b : Bl) (f : Fl) (g : Good b f) (D : Nat) (hD : D < 12) :
    Cs gl n_nacelleref03_All up [b.iv, f.iv, .int .i64 ((D + 1 : Nat) : Int)] (allO (b.F f D) (b.tq f D)) up := by
  have h := c_rAll (gl := gl) up b f g D hD
  unfold Bl.tq
  by_cases hall : allBr b f 0
  · rw [if_pos hall] at h
    rw [if_pos ((allBr_iff 0 D).1 hall)]
    exact h
  · rw [if_neg hall] at h
    rw [if_neg (fun q => hall ((allBr_iff 0 D).2 q))]
    exact h

theorem bestTo_no (g : Int → Option (Int × Int)) (x : Int) : ∀ k, (bestTo g x k).2.2 = false → bestTo g x k = (0, (0, 0), false)
  | 0, _ => rfl
  | k + 1, h => by
    have ih := bestTo_no g x k
    simp only [bestTo] at h ⊢
    cases hg : g (x + k) with
    | none => rw [hg] at h; exact ih h
    | some t =>
      rw [hg] at h
      simp only at h ⊢
      cases hc : (!(bestTo g x k).2.2 || decide (t.1 > (bestTo g x k).2.1.1)) with
      | true => rw [hc] at h; simp at h
      | false =>
        rw [hc] at h
        simp only [cond_false] at h ⊢
        exact ih h

theorem c_rBest (up : List Ces) (b : Bl) (f : Fl) (n : Nat) (g3 : n < 12) (x y : Int) (hb : b.err = 0) (hf : f.err = 0) (p1 : -64 ≤ x) (p2 : x ≤ y) (p3 : y ≤ 64) (N : Nat) (hN : y + 1 - x = N) (g : Int → Option (Int × Int)) (hg : g = fun p => b.tq (f.at p) n) :
    Cs gl n_nacelleref03_Best up [b.iv, f.iv, .int .i64 ((n + 1 : Nat) : Int), .int .i64 x, .int .i64 y]
      (.tup [.int .i64 (bestTo g x N).1, .agg [.int .i64 (bestTo g x N).2.1.1, .int .i64 (bestTo g x N).2.1.2], .bool (bestTo g x N).2.2]) up := by
  refine mk h_nacelleref03_Best rfl rfl ?_
  obtain ⟨F, hF⟩ : ∃ F : Int → Int × Int, F = fun p => b.F (f.at p) n := ⟨_, rfl⟩
  have hall : ∀ up p, -64 ≤ p → p ≤ 64 → Cs gl n_nacelleref03_All up [b.iv, (f.at p).iv, .int .i64 ((n + 1 : Nat) : Int)] (allO (F p) (g p)) up := fun up p q1 q2 => by
    rw [hg, hF]; exact c_rAllO up b (f.at p) ⟨hb, Fl.at_err hf q1 q2⟩ n g3
  clear hg hF
  conv => whnf
  refine .mk (α := {k : Nat // k ≤ N}) (fun k => ⟨[(16, .int .i64 (x + k.1)), (14, .bool (bestTo g x k.1).2.2), (13, .int .i64 (bestTo g x k.1).1), (4, .int .i64 y), (2, .int .i64 ((n + 1 : Nat) : Int)), (5, .ptr 0 5 0), (6, .ptr 0 6 0), (11, .ptr 0 11 0), (15, .ptr 0 15 0)],
    [(15, [.int .i64 (bestTo g x k.1).2.1.1, .int .i64 (bestTo g x k.1).2.1.2]), (11, [.int .i64 0, .int .i64 0]), (6, [.int .i64 f.w, .int .i64 f.s, .int .i64 f.p]),
     (5, [.lst none 1 b.nl fun i => [.int .i64 (b.lf i)], .lst none 1 b.nd fun i => [.int .i64 (b.df i)], .lst none 4 b.nr fun i => [.int .i64 (b.r1 i), .int .i64 (b.r2 i), .int .i64 (b.r3 i), .int .i64 (b.r4 i)]])], up⟩) (fun k => N - k.1) ⟨0, Nat.zero_le _⟩ ⟨?_, ?_, rfl, rfl⟩ ?_
  · exact ⟨leV_int (by show x = x + ((0 : Nat) : Int); omega), leV_refl _, leV_refl _, leV_refl _, leV_refl _, leV_refl _, leV_refl _, leV_refl _, leV_refl _, trivial⟩
  · exact ⟨leL_refl _, leL_refl _, leL_refl _, leL_refl _, trivial⟩
  rintro ⟨k, hk⟩
  have hw : w64 (x + k + 1) = x + ((k + 1 : Nat) : Int) := by rw [w64, wrap_in] <;> omega
  by_cases hlt : k < N
  · have q : decide (x + k ≤ y) = true := decide_eq_true (by omega)
    have hp := fun up => hall up (x + k) (by omega) (by omega)
    have hpt := fun up => c_rpitched (gl := gl) up f (x + k)
    have hstep : bestTo g x (k + 1) = match g (x + k) with
      | some t => bif !(bestTo g x k).2.2 || decide (t.1 > (bestTo g x k).2.1.1) then (x + k, t, true) else bestTo g x k
      | none => bestTo g x k := rfl
    cases hgk : g (x + k) with
    | none =>
      rw [hgk] at hp hstep
      simp only at hstep
      conv => whnf
      split
      rotate_left
      · rename_i h
        exact Bool.noConfusion ((q).symm.trans h)
      rename_i hN
      clear hN
      conv => whnf
      first
        | refine .mk 0 (by decide +kernel) ?_
        | refine .mk 1 (by decide +kernel) ?_
        | refine .mk 2 (by decide +kernel) ?_
        | refine .mk 3 (by decide +kernel) ?_
        | refine .mk 4 (by decide +kernel) ?_
        | refine .mk 5 (by decide +kernel) ?_
        | refine .mk 6 (by decide +kernel) ?_
        | refine .mk 7 (by decide +kernel) ?_
        | refine .mk 8 (by decide +kernel) ?_
        | refine .mk 9 (by decide +kernel) ?_
        | refine .mk 10 (by decide +kernel) ?_
        | refine .mk 11 (by decide +kernel) ?_
        | refine .mk 12 (by decide +kernel) ?_
        | refine .mk 13 (by decide +kernel) ?_
        | refine .mk 14 (by decide +kernel) ?_
        | refine .mk 15 (by decide +kernel) ?_
        | refine .mk 16 (by decide +kernel) ?_
        | refine .mk 17 (by decide +kernel) ?_
        | refine .mk 18 (by decide +kernel) ?_
        | refine .mk 19 (by decide +kernel) ?_
        | refine .mk 20 (by decide +kernel) ?_
        | refine .mk 21 (by decide +kernel) ?_
        | refine .mk 22 (by decide +kernel) ?_
        | refine .mk 23 (by decide +kernel) ?_
        | refine .mk 24 (by decide +kernel) ?_
        | refine .mk 25 (by decide +kernel) ?_
        | refine .mk 26 (by decide +kernel) ?_
        | refine .mk 27 (by decide +kernel) ?_
        | refine .mk 28 (by decide +kernel) ?_
        | refine .mk 29 (by decide +kernel) ?_
        | refine .mk 30 (by decide +kernel) ?_
        | refine .mk 31 (by decide +kernel) ?_
        | refine .mk 32 (by decide +kernel) ?_
        | refine .mk 33 (by decide +kernel) ?_
        | refine .mk 34 (by decide +kernel) ?_
        | refine .mk 35 (by decide +kernel) ?_
        | refine .mk 36 (by decide +kernel) ?_
        | refine .mk 37 (by decide +kernel) ?_
        | refine .mk 38 (by decide +kernel) ?_
        | refine .mk 39 (by decide +kernel) ?_
        | refine .mk 40 (by decide +kernel) ?_
        | refine .mk 41 (by decide +kernel) ?_
      conv => whnf
      repeat first
        | (show DRAW _ _ _ _ _; (first | refine .mk 0 (by decide +kernel) ?_ | refine .mk 1 (by decide +kernel) ?_ | refine .mk 2 (by decide +kernel) ?_ | refine .mk 3 (by decide +kernel) ?_ | refine .mk 4 (by decide +kernel) ?_ | refine .mk 5 (by decide +kernel) ?_ | refine .mk 6 (by decide +kernel) ?_ | refine .mk 7 (by decide +kernel) ?_ | refine .mk 8 (by decide +kernel) ?_ | refine .mk 9 (by decide +kernel) ?_ | refine .mk 10 (by decide +kernel) ?_ | refine .mk 11 (by decide +kernel) ?_ | refine .mk 12 (by decide +kernel) ?_ | refine .mk 13 (by decide +kernel) ?_ | refine .mk 14 (by decide +kernel) ?_ | refine .mk 15 (by decide +kernel) ?_ | refine .mk 16 (by decide +kernel) ?_ | refine .mk 17 (by decide +kernel) ?_ | refine .mk 18 (by decide +kernel) ?_ | refine .mk 19 (by decide +kernel) ?_ | refine .mk 20 (by decide +kernel) ?_ | refine .mk 21 (by decide +kernel) ?_ | refine .mk 22 (by decide +kernel) ?_ | refine .mk 23 (by decide +kernel) ?_ | refine .mk 24 (by decide +kernel) ?_ | refine .mk 25 (by decide +kernel) ?_ | refine .mk 26 (by decide +kernel) ?_ | refine .mk 27 (by decide +kernel) ?_ | refine .mk 28 (by decide +kernel) ?_ | refine .mk 29 (by decide +kernel) ?_ | refine .mk 30 (by decide +kernel) ?_ | refine .mk 31 (by decide +kernel) ?_ | refine .mk 32 (by decide +kernel) ?_ | refine .mk 33 (by decide +kernel) ?_ | refine .mk 34 (by decide +kernel) ?_ | refine .mk 35 (by decide +kernel) ?_ | refine .mk 36 (by decide +kernel) ?_ | refine .mk 37 (by decide +kernel) ?_ | refine .mk 38 (by decide +kernel) ?_ | refine .mk 39 (by decide +kernel) ?_ | refine .mk 40 (by decide +kernel) ?_ | refine .mk 41 (by decide +kernel) ?_); (conv => whnf))
        | (refine HOLD.mk (by first | exact trivial | exact ⟨⟨rfl, rfl⟩, trivial⟩ | exact ⟨⟨rfl, rfl⟩, ⟨rfl, rfl⟩, trivial⟩) ?_; (conv => whnf))
        | (refine CALL0.mk _ _ _ _ _ (leL_refl _) (hpt ..) rfl ?_; conv => whnf)
        | (refine CALLQ.mk _ _ _ (leL_refl _) (hpt ..) rfl ?_; conv => whnf)
        | (refine CALL0.mk _ _ _ _ _ (leL_refl _) (hp ..) rfl ?_; conv => whnf)
        | (refine CALLQ.mk _ _ _ (leL_refl _) (hp ..) rfl ?_; conv => whnf)
      refine ⟨⟨k + 1, hlt⟩, ⟨⟨leV_int hw, ?_, ?_, leV_refl _, leV_refl _, leV_refl _, leV_refl _, leV_refl _, leV_refl _, trivial⟩, ⟨?_, leL_refl _, leL_refl _, leL_refl _, trivial⟩, rfl, rfl⟩, (by show N - (k + 1) < N - k; omega)⟩
      · simp only [hstep]; exact leV_refl _
      · simp only [hstep]; exact leV_refl _
      · simp only [hstep]; exact leL_refl _
    | some t =>
      rw [hgk] at hp hstep
      simp only at hstep
      obtain ⟨B, hB⟩ : ∃ B, B = bestTo g x k := ⟨_, rfl⟩
      rw [← hB] at hstep ⊢
      obtain ⟨b1, ⟨b2, b3⟩, b4⟩ := B
      cases b4 with
      | false =>
        simp only [Bool.not_false, Bool.true_or, cond_true] at hstep
        conv => whnf
        split
        rotate_left
        · rename_i h
          exact Bool.noConfusion ((q).symm.trans h)
        rename_i hN
        clear hN
        conv => whnf
        first
          | refine .mk 0 (by decide +kernel) ?_
          | refine .mk 1 (by decide +kernel) ?_
          | refine .mk 2 (by decide +kernel) ?_
          | refine .mk 3 (by decide +kernel) ?_
          | refine .mk 4 (by decide +kernel) ?_
          | refine .mk 5 (by decide +kernel) ?_
          | refine .mk 6 (by decide +kernel) ?_
          | refine .mk 7 (by decide +kernel) ?_
          | refine .mk 8 (by decide +kernel) ?_
          | refine .mk 9 (by decide +kernel) ?_
          | refine .mk 10 (by decide +kernel) ?_
          | refine .mk 11 (by decide +kernel) ?_
          | refine .mk 12 (by decide +kernel) ?_
          | refine .mk 13 (by decide +kernel) ?_
          | refine .mk 14 (by decide +kernel) ?_
          | refine .mk 15 (by decide +kernel) ?_
          | refine .mk 16 (by decide +kernel) ?_
          | refine .mk 17 (by decide +kernel) ?_
          | refine .mk 18 (by decide +kernel) ?_
          | refine .mk 19 (by decide +kernel) ?_
          | refine .mk 20 (by decide +kernel) ?_
          | refine .mk 21 (by decide +kernel) ?_
          | refine .mk 22 (by decide +kernel) ?_
          | refine .mk 23 (by decide +kernel) ?_
          | refine .mk 24 (by decide +kernel) ?_
          | refine .mk 25 (by decide +kernel) ?_
          | refine .mk 26 (by decide +kernel) ?_
          | refine .mk 27 (by decide +kernel) ?_
          | refine .mk 28 (by decide +kernel) ?_
          | refine .mk 29 (by decide +kernel) ?_
          | refine .mk 30 (by decide +kernel) ?_
          | refine .mk 31 (by decide +kernel) ?_
          | refine .mk 32 (by decide +kernel) ?_
          | refine .mk 33 (by decide +kernel) ?_
          | refine .mk 34 (by decide +kernel) ?_
          | refine .mk 35 (by decide +kernel) ?_
          | refine .mk 36 (by decide +kernel) ?_
          | refine .mk 37 (by decide +kernel) ?_
          | refine .mk 38 (by decide +kernel) ?_
          | refine .mk 39 (by decide +kernel) ?_
          | refine .mk 40 (by decide +kernel) ?_
          | refine .mk 41 (by decide +kernel) ?_
        conv => whnf
        repeat first
          | (show DRAW _ _ _ _ _; (first | refine .mk 0 (by decide +kernel) ?_ | refine .mk 1 (by decide +kernel) ?_ | refine .mk 2 (by decide +kernel) ?_ | refine .mk 3 (by decide +kernel) ?_ | refine .mk 4 (by decide +kernel) ?_ | refine .mk 5 (by decide +kernel) ?_ | refine .mk 6 (by decide +kernel) ?_ | refine .mk 7 (by decide +kernel) ?_ | refine .mk 8 (by decide +kernel) ?_ | refine .mk 9 (by decide +kernel) ?_ | refine .mk 10 (by decide +kernel) ?_ | refine .mk 11 (by decide +kernel) ?_ | refine .mk 12 (by decide +kernel) ?_ | refine .mk 13 (by decide +kernel) ?_ | refine .mk 14 (by decide +kernel) ?_ | refine .mk 15 (by decide +kernel) ?_ | refine .mk 16 (by decide +kernel) ?_ | refine .mk 17 (by decide +kernel) ?_ | refine .mk 18 (by decide +kernel) ?_ | refine .mk 19 (by decide +kernel) ?_ | refine .mk 20 (by decide +kernel) ?_ | refine .mk 21 (by decide +kernel) ?_ | refine .mk 22 (by decide +kernel) ?_ | refine .mk 23 (by decide +kernel) ?_ | refine .mk 24 (by decide +kernel) ?_ | refine .mk 25 (by decide +kernel) ?_ | refine .mk 26 (by decide +kernel) ?_ | refine .mk 27 (by decide +kernel) ?_ | refine .mk 28 (by decide +kernel) ?_ | refine .mk 29 (by decide +kernel) ?_ | refine .mk 30 (by decide +kernel) ?_ | refine .mk 31 (by decide +kernel) ?_ | refine .mk 32 (by decide +kernel) ?_ | refine .mk 33 (by decide +kernel) ?_ | refine .mk 34 (by decide +kernel) ?_ | refine .mk 35 (by decide +kernel) ?_ | refine .mk 36 (by decide +kernel) ?_ | refine .mk 37 (by decide +kernel) ?_ | refine .mk 38 (by decide +kernel) ?_ | refine .mk 39 (by decide +kernel) ?_ | refine .mk 40 (by decide +kernel) ?_ | refine .mk 41 (by decide +kernel) ?_); (conv => whnf))
          | (refine HOLD.mk (by first | exact trivial | exact ⟨⟨rfl, rfl⟩, trivial⟩ | exact ⟨⟨rfl, rfl⟩, ⟨rfl, rfl⟩, trivial⟩) ?_; (conv => whnf))
          | (refine CALL0.mk _ _ _ _ _ (leL_refl _) (hpt ..) rfl ?_; conv => whnf)
          | (refine CALLQ.mk _ _ _ (leL_refl _) (hpt ..) rfl ?_; conv => whnf)
          | (refine CALL0.mk _ _ _ _ _ (leL_refl _) (hp ..) rfl ?_; conv => whnf)
          | (refine CALLQ.mk _ _ _ (leL_refl _) (hp ..) rfl ?_; conv => whnf)
        refine ⟨⟨k + 1, hlt⟩, ⟨⟨leV_int hw, ?_, ?_, leV_refl _, leV_refl _, leV_refl _, leV_refl _, leV_refl _, leV_refl _, trivial⟩, ⟨?_, leL_refl _, leL_refl _, leL_refl _, trivial⟩, rfl, rfl⟩, (by show N - (k + 1) < N - k; omega)⟩
        · simp only [hstep]; exact leV_refl _
        · simp only [hstep]; exact leV_refl _
        · simp only [hstep]; exact leL_refl _
      | true =>
        simp only [Bool.not_true, Bool.false_or] at hstep
        cases q2 : decide (t.1 > b2) with
        | true =>
          rw [q2, cond_true] at hstep
          conv => whnf
          split
          rotate_left
          · rename_i h
            exact Bool.noConfusion ((q).symm.trans h)
          rename_i hN
          clear hN
          conv => whnf
          first
            | refine .mk 0 (by decide +kernel) ?_
            | refine .mk 1 (by decide +kernel) ?_
            | refine .mk 2 (by decide +kernel) ?_
            | refine .mk 3 (by decide +kernel) ?_
            | refine .mk 4 (by decide +kernel) ?_
            | refine .mk 5 (by decide +kernel) ?_
            | refine .mk 6 (by decide +kernel) ?_
            | refine .mk 7 (by decide +kernel) ?_
            | refine .mk 8 (by decide +kernel) ?_
            | refine .mk 9 (by decide +kernel) ?_
            | refine .mk 10 (by decide +kernel) ?_
            | refine .mk 11 (by decide +kernel) ?_
            | refine .mk 12 (by decide +kernel) ?_
            | refine .mk 13 (by decide +kernel) ?_
            | refine .mk 14 (by decide +kernel) ?_
            | refine .mk 15 (by decide +kernel) ?_
            | refine .mk 16 (by decide +kernel) ?_
            | refine .mk 17 (by decide +kernel) ?_
            | refine .mk 18 (by decide +kernel) ?_
            | refine .mk 19 (by decide +kernel) ?_
            | refine .mk 20 (by decide +kernel) ?_
            | refine .mk 21 (by decide +kernel) ?_
            | refine .mk 22 (by decide +kernel) ?_
            | refine .mk 23 (by decide +kernel) ?_
            | refine .mk 24 (by decide +kernel) ?_
            | refine .mk 25 (by decide +kernel) ?_
            | refine .mk 26 (by decide +kernel) ?_
            | refine .mk 27 (by decide +kernel) ?_
            | refine .mk 28 (by decide +kernel) ?_
            | refine .mk 29 (by decide +kernel) ?_
            | refine .mk 30 (by decide +kernel) ?_
            | refine .mk 31 (by decide +kernel) ?_
            | refine .mk 32 (by decide +kernel) ?_
            | refine .mk 33 (by decide +kernel) ?_
            | refine .mk 34 (by decide +kernel) ?_
            | refine .mk 35 (by decide +kernel) ?_
            | refine .mk 36 (by decide +kernel) ?_
            | refine .mk 37 (by decide +kernel) ?_
            | refine .mk 38 (by decide +kernel) ?_
            | refine .mk 39 (by decide +kernel) ?_
            | refine .mk 40 (by decide +kernel) ?_
            | refine .mk 41 (by decide +kernel) ?_
          conv => whnf
          repeat first
            | (show DRAW _ _ _ _ _; (first | refine .mk 0 (by decide +kernel) ?_ | refine .mk 1 (by decide +kernel) ?_ | refine .mk 2 (by decide +kernel) ?_ | refine .mk 3 (by decide +kernel) ?_ | refine .mk 4 (by decide +kernel) ?_ | refine .mk 5 (by decide +kernel) ?_ | refine .mk 6 (by decide +kernel) ?_ | refine .mk 7 (by decide +kernel) ?_ | refine .mk 8 (by decide +kernel) ?_ | refine .mk 9 (by decide +kernel) ?_ | refine .mk 10 (by decide +kernel) ?_ | refine .mk 11 (by decide +kernel) ?_ | refine .mk 12 (by decide +kernel) ?_ | refine .mk 13 (by decide +kernel) ?_ | refine .mk 14 (by decide +kernel) ?_ | refine .mk 15 (by decide +kernel) ?_ | refine .mk 16 (by decide +kernel) ?_ | refine .mk 17 (by decide +kernel) ?_ | refine .mk 18 (by decide +kernel) ?_ | refine .mk 19 (by decide +kernel) ?_ | refine .mk 20 (by decide +kernel) ?_ | refine .mk 21 (by decide +kernel) ?_ | refine .mk 22 (by decide +kernel) ?_ | refine .mk 23 (by decide +kernel) ?_ | refine .mk 24 (by decide +kernel) ?_ | refine .mk 25 (by decide +kernel) ?_ | refine .mk 26 (by decide +kernel) ?_ | refine .mk 27 (by decide +kernel) ?_ | refine .mk 28 (by decide +kernel) ?_ | refine .mk 29 (by decide +kernel) ?_ | refine .mk 30 (by decide +kernel) ?_ | refine .mk 31 (by decide +kernel) ?_ | refine .mk 32 (by decide +kernel) ?_ | refine .mk 33 (by decide +kernel) ?_ | refine .mk 34 (by decide +kernel) ?_ | refine .mk 35 (by decide +kernel) ?_ | refine .mk 36 (by decide +kernel) ?_ | refine .mk 37 (by decide +kernel) ?_ | refine .mk 38 (by decide +kernel) ?_ | refine .mk 39 (by decide +kernel) ?_ | refine .mk 40 (by decide +kernel) ?_ | refine .mk 41 (by decide +kernel) ?_); (conv => whnf))
            | (refine HOLD.mk (by first | exact trivial | exact ⟨⟨rfl, rfl⟩, trivial⟩ | exact ⟨⟨rfl, rfl⟩, ⟨rfl, rfl⟩, trivial⟩) ?_; (conv => whnf))
            | (refine CALL0.mk _ _ _ _ _ (leL_refl _) (hpt ..) rfl ?_; conv => whnf)
            | (refine CALLQ.mk _ _ _ (leL_refl _) (hpt ..) rfl ?_; conv => whnf)
            | (refine CALL0.mk _ _ _ _ _ (leL_refl _) (hp ..) rfl ?_; conv => whnf)
            | (refine CALLQ.mk _ _ _ (leL_refl _) (hp ..) rfl ?_; conv => whnf)
          split
          rotate_left
          · rename_i h
            exact Bool.noConfusion ((q2).symm.trans h)
          rename_i hN
          clear hN
          conv => whnf
          repeat first
            | (show DRAW _ _ _ _ _; (first | refine .mk 0 (by decide +kernel) ?_ | refine .mk 1 (by decide +kernel) ?_ | refine .mk 2 (by decide +kernel) ?_ | refine .mk 3 (by decide +kernel) ?_ | refine .mk 4 (by decide +kernel) ?_ | refine .mk 5 (by decide +kernel) ?_ | refine .mk 6 (by decide +kernel) ?_ | refine .mk 7 (by decide +kernel) ?_ | refine .mk 8 (by decide +kernel) ?_ | refine .mk 9 (by decide +kernel) ?_ | refine .mk 10 (by decide +kernel) ?_ | refine .mk 11 (by decide +kernel) ?_ | refine .mk 12 (by decide +kernel) ?_ | refine .mk 13 (by decide +kernel) ?_ | refine .mk 14 (by decide +kernel) ?_ | refine .mk 15 (by decide +kernel) ?_ | refine .mk 16 (by decide +kernel) ?_ | refine .mk 17 (by decide +kernel) ?_ | refine .mk 18 (by decide +kernel) ?_ | refine .mk 19 (by decide +kernel) ?_ | refine .mk 20 (by decide +kernel) ?_ | refine .mk 21 (by decide +kernel) ?_ | refine .mk 22 (by decide +kernel) ?_ | refine .mk 23 (by decide +kernel) ?_ | refine .mk 24 (by decide +kernel) ?_ | refine .mk 25 (by decide +kernel) ?_ | refine .mk 26 (by decide +kernel) ?_ | refine .mk 27 (by decide +kernel) ?_ | refine .mk 28 (by decide +kernel) ?_ | refine .mk 29 (by decide +kernel) ?_ | refine .mk 30 (by decide +kernel) ?_ | refine .mk 31 (by decide +kernel) ?_ | refine .mk 32 (by decide +kernel) ?_ | refine .mk 33 (by decide +kernel) ?_ | refine .mk 34 (by decide +kernel) ?_ | refine .mk 35 (by decide +kernel) ?_ | refine .mk 36 (by decide +kernel) ?_ | refine .mk 37 (by decide +kernel) ?_ | refine .mk 38 (by decide +kernel) ?_ | refine .mk 39 (by decide +kernel) ?_ | refine .mk 40 (by decide +kernel) ?_ | refine .mk 41 (by decide +kernel) ?_); (conv => whnf))
            | (refine HOLD.mk (by first | exact trivial | exact ⟨⟨rfl, rfl⟩, trivial⟩ | exact ⟨⟨rfl, rfl⟩, ⟨rfl, rfl⟩, trivial⟩) ?_; (conv => whnf))
            | (refine CALL0.mk _ _ _ _ _ (leL_refl _) (hpt ..) rfl ?_; conv => whnf)
            | (refine CALLQ.mk _ _ _ (leL_refl _) (hpt ..) rfl ?_; conv => whnf)
          refine ⟨⟨k + 1, hlt⟩, ⟨⟨leV_int hw, ?_, ?_, leV_refl _, leV_refl _, leV_refl _, leV_refl _, leV_refl _, leV_refl _, trivial⟩, ⟨?_, leL_refl _, leL_refl _, leL_refl _, trivial⟩, rfl, rfl⟩, (by show N - (k + 1) < N - k; omega)⟩
          · simp only [hstep]; exact leV_refl _
          · simp only [hstep]; exact leV_refl _
          · simp only [hstep]; exact leL_refl _
        | false =>
          rw [q2, cond_false] at hstep
          conv => whnf
          split
          rotate_left
          · rename_i h
            exact Bool.noConfusion ((q).symm.trans h)
          rename_i hN
          clear hN
          conv => whnf
          first
            | refine .mk 0 (by decide +kernel) ?_
            | refine .mk 1 (by decide +kernel) ?_
            | refine .mk 2 (by decide +kernel) ?_
            | refine .mk 3 (by decide +kernel) ?_
            | refine .mk 4 (by decide +kernel) ?_
            | refine .mk 5 (by decide +kernel) ?_
            | refine .mk 6 (by decide +kernel) ?_
            | refine .mk 7 (by decide +kernel) ?_
            | refine .mk 8 (by decide +kernel) ?_
            | refine .mk 9 (by decide +kernel) ?_
            | refine .mk 10 (by decide +kernel) ?_
            | refine .mk 11 (by decide +kernel) ?_
            | refine .mk 12 (by decide +kernel) ?_
            | refine .mk 13 (by decide +kernel) ?_
            | refine .mk 14 (by decide +kernel) ?_
            | refine .mk 15 (by decide +kernel) ?_
            | refine .mk 16 (by decide +kernel) ?_
            | refine .mk 17 (by decide +kernel) ?_
            | refine .mk 18 (by decide +kernel) ?_
            | refine .mk 19 (by decide +kernel) ?_
            | refine .mk 20 (by decide +kernel) ?_
            | refine .mk 21 (by decide +kernel) ?_
            | refine .mk 22 (by decide +kernel) ?_
            | refine .mk 23 (by decide +kernel) ?_
            | refine .mk 24 (by decide +kernel) ?_
            | refine .mk 25 (by decide +kernel) ?_
            | refine .mk 26 (by decide +kernel) ?_
            | refine .mk 27 (by decide +kernel) ?_
            | refine .mk 28 (by decide +kernel) ?_
            | refine .mk 29 (by decide +kernel) ?_
            | refine .mk 30 (by decide +kernel) ?_
            | refine .mk 31 (by decide +kernel) ?_
            | refine .mk 32 (by decide +kernel) ?_
            | refine .mk 33 (by decide +kernel) ?_
            | refine .mk 34 (by decide +kernel) ?_
            | refine .mk 35 (by decide +kernel) ?_
            | refine .mk 36 (by decide +kernel) ?_
            | refine .mk 37 (by decide +kernel) ?_
            | refine .mk 38 (by decide +kernel) ?_
            | refine .mk 39 (by decide +kernel) ?_
            | refine .mk 40 (by decide +kernel) ?_
            | refine .mk 41 (by decide +kernel) ?_
          conv => whnf
          repeat first
            | (show DRAW _ _ _ _ _; (first | refine .mk 0 (by decide +kernel) ?_ | refine .mk 1 (by decide +kernel) ?_ | refine .mk 2 (by decide +kernel) ?_ | refine .mk 3 (by decide +kernel) ?_ | refine .mk 4 (by decide +kernel) ?_ | refine .mk 5 (by decide +kernel) ?_ | refine .mk 6 (by decide +kernel) ?_ | refine .mk 7 (by decide +kernel) ?_ | refine .mk 8 (by decide +kernel) ?_ | refine .mk 9 (by decide +kernel) ?_ | refine .mk 10 (by decide +kernel) ?_ | refine .mk 11 (by decide +kernel) ?_ | refine .mk 12 (by decide +kernel) ?_ | refine .mk 13 (by decide +kernel) ?_ | refine .mk 14 (by decide +kernel) ?_ | refine .mk 15 (by decide +kernel) ?_ | refine .mk 16 (by decide +kernel) ?_ | refine .mk 17 (by decide +kernel) ?_ | refine .mk 18 (by decide +kernel) ?_ | refine .mk 19 (by decide +kernel) ?_ | refine .mk 20 (by decide +kernel) ?_ | refine .mk 21 (by decide +kernel) ?_ | refine .mk 22 (by decide +kernel) ?_ | refine .mk 23 (by decide +kernel) ?_ | refine .mk 24 (by decide +kernel) ?_ | refine .mk 25 (by decide +kernel) ?_ | refine .mk 26 (by decide +kernel) ?_ | refine .mk 27 (by decide +kernel) ?_ | refine .mk 28 (by decide +kernel) ?_ | refine .mk 29 (by decide +kernel) ?_ | refine .mk 30 (by decide +kernel) ?_ | refine .mk 31 (by decide +kernel) ?_ | refine .mk 32 (by decide +kernel) ?_ | refine .mk 33 (by decide +kernel) ?_ | refine .mk 34 (by decide +kernel) ?_ | refine .mk 35 (by decide +kernel) ?_ | refine .mk 36 (by decide +kernel) ?_ | refine .mk 37 (by decide +kernel) ?_ | refine .mk 38 (by decide +kernel) ?_ | refine .mk 39 (by decide +kernel) ?_ | refine .mk 40 (by decide +kernel) ?_ | refine .mk 41 (by decide +kernel) ?_); (conv => whnf))
            | (refine HOLD.mk (by first | exact trivial | exact ⟨⟨rfl, rfl⟩, trivial⟩ | exact ⟨⟨rfl, rfl⟩, ⟨rfl, rfl⟩, trivial⟩) ?_; (conv => whnf))
            | (refine CALL0.mk _ _ _ _ _ (leL_refl _) (hpt ..) rfl ?_; conv => whnf)
            | (refine CALLQ.mk _ _ _ (leL_refl _) (hpt ..) rfl ?_; conv => whnf)
            | (refine CALL0.mk _ _ _ _ _ (leL_refl _) (hp ..) rfl ?_; conv => whnf)
            | (refine CALLQ.mk _ _ _ (leL_refl _) (hp ..) rfl ?_; conv => whnf)
          split
          · rename_i h
            exact Bool.noConfusion ((q2).symm.trans h)
          rename_i hN
          clear hN
          conv => whnf
          refine ⟨⟨k + 1, hlt⟩, ⟨⟨leV_int hw, ?_, ?_, leV_refl _, leV_refl _, leV_refl _, leV_refl _, leV_refl _, leV_refl _, trivial⟩, ⟨?_, leL_refl _, leL_refl _, leL_refl _, trivial⟩, rfl, rfl⟩, (by show N - (k + 1) < N - k; omega)⟩
          · simp only [hstep]; exact leV_refl _
          · simp only [hstep]; exact leV_refl _
          · simp only [hstep]; exact leL_refl _
  · have q : decide (x + k ≤ y) = false := decide_eq_false (by omega)
    have : k = N := by omega
    subst this
    have hpt := fun up => c_rpitched (gl := gl) up f x
    conv => whnf
    split
    · rename_i h
      exact Bool.noConfusion ((q).symm.trans h)
    rename_i hN
    clear hN
    conv => whnf
    repeat first
      | (show DRAW _ _ _ _ _; (first | refine .mk 0 (by decide +kernel) ?_ | refine .mk 1 (by decide +kernel) ?_ | refine .mk 2 (by decide +kernel) ?_ | refine .mk 3 (by decide +kernel) ?_ | refine .mk 4 (by decide +kernel) ?_ | refine .mk 5 (by decide +kernel) ?_ | refine .mk 6 (by decide +kernel) ?_ | refine .mk 7 (by decide +kernel) ?_ | refine .mk 8 (by decide +kernel) ?_ | refine .mk 9 (by decide +kernel) ?_ | refine .mk 10 (by decide +kernel) ?_ | refine .mk 11 (by decide +kernel) ?_ | refine .mk 12 (by decide +kernel) ?_ | refine .mk 13 (by decide +kernel) ?_ | refine .mk 14 (by decide +kernel) ?_ | refine .mk 15 (by decide +kernel) ?_ | refine .mk 16 (by decide +kernel) ?_ | refine .mk 17 (by decide +kernel) ?_ | refine .mk 18 (by decide +kernel) ?_ | refine .mk 19 (by decide +kernel) ?_ | refine .mk 20 (by decide +kernel) ?_ | refine .mk 21 (by decide +kernel) ?_ | refine .mk 22 (by decide +kernel) ?_ | refine .mk 23 (by decide +kernel) ?_ | refine .mk 24 (by decide +kernel) ?_ | refine .mk 25 (by decide +kernel) ?_ | refine .mk 26 (by decide +kernel) ?_ | refine .mk 27 (by decide +kernel) ?_ | refine .mk 28 (by decide +kernel) ?_ | refine .mk 29 (by decide +kernel) ?_ | refine .mk 30 (by decide +kernel) ?_ | refine .mk 31 (by decide +kernel) ?_ | refine .mk 32 (by decide +kernel) ?_ | refine .mk 33 (by decide +kernel) ?_ | refine .mk 34 (by decide +kernel) ?_ | refine .mk 35 (by decide +kernel) ?_ | refine .mk 36 (by decide +kernel) ?_ | refine .mk 37 (by decide +kernel) ?_ | refine .mk 38 (by decide +kernel) ?_ | refine .mk 39 (by decide +kernel) ?_ | refine .mk 40 (by decide +kernel) ?_ | refine .mk 41 (by decide +kernel) ?_); (conv => whnf))
      | (refine HOLD.mk (by first | exact trivial | exact ⟨⟨rfl, rfl⟩, trivial⟩ | exact ⟨⟨rfl, rfl⟩, ⟨rfl, rfl⟩, trivial⟩) ?_; (conv => whnf))
      | (refine CALL0.mk _ _ _ _ _ (leL_refl _) (hpt ..) rfl ?_; conv => whnf)
      | (refine CALLQ.mk _ _ _ (leL_refl _) (hpt ..) rfl ?_; conv => whnf)
    exact ⟨rfl, rfl⟩

def limO (o : Option Int) : IV := match o with
  | some p => .tup [.int .i64 p, .bool true]
  | none => .tup [.int .i64 0, .bool false]

theorem c_rLimit (up : List Ces) (b : Bl) (f : Fl) (n : Nat) (g3 : n < 12) (x y m : Int) (hb : b.err = 0) (hf : f.err = 0) (p1 : -64 ≤ x) (p2 : x ≤ y) (p3 : y ≤ 64) (N : Nat) (hN : y + 1 - x = N) (g : Int → Option (Int × Int)) (hg : g = fun p => b.tq (f.at p) n) :
    Cs gl n_nacelleref03_Limit up [b.iv, f.iv, .int .i64 ((n + 1 : Nat) : Int), .int .i64 x, .int .i64 y, .int .i64 m] (limO (limTo g m N x)) up := by
  refine mk h_nacelleref03_Limit rfl rfl ?_
  obtain ⟨F, hF⟩ : ∃ F : Int → Int × Int, F = fun p => b.F (f.at p) n := ⟨_, rfl⟩
  have hall : ∀ up p, -64 ≤ p → p ≤ 64 → Cs gl n_nacelleref03_All up [b.iv, (f.at p).iv, .int .i64 ((n + 1 : Nat) : Int)] (allO (F p) (g p)) up := fun up p q1 q2 => by
    rw [hg, hF]; exact c_rAllO up b (f.at p) ⟨hb, Fl.at_err hf q1 q2⟩ n g3
  clear hg hF
  obtain ⟨R, hR⟩ : ∃ R, R = limTo g m N x := ⟨_, rfl⟩
  rw [← hR]
  conv => whnf
  refine .mk (α := {k : Nat // k ≤ N ∧ R = limTo g m (N - k) (x + k)}) (fun k => ⟨[(14, .int .i64 (x + k.1)), (5, .int .i64 m), (4, .int .i64 y), (2, .int .i64 ((n + 1 : Nat) : Int)), (6, .ptr 0 6 0), (7, .ptr 0 7 0)],
    [(7, [.int .i64 f.w, .int .i64 f.s, .int .i64 f.p]),
     (6, [.lst none 1 b.nl fun i => [.int .i64 (b.lf i)], .lst none 1 b.nd fun i => [.int .i64 (b.df i)], .lst none 4 b.nr fun i => [.int .i64 (b.r1 i), .int .i64 (b.r2 i), .int .i64 (b.r3 i), .int .i64 (b.r4 i)]])], up⟩) (fun k => N - k.1) ⟨0, Nat.zero_le _, by rw [hR]; simp⟩ ⟨?_, ?_, rfl, rfl⟩ ?_
  · exact ⟨leV_int (by show x = x + ((0 : Nat) : Int); omega), leV_refl _, leV_refl _, leV_refl _, leV_refl _, leV_refl _, trivial⟩
  · exact ⟨leL_refl _, leL_refl _, trivial⟩
  rintro ⟨k, hk, hRk⟩
  have hw : w64 (x + k + 1) = x + ((k + 1 : Nat) : Int) := by rw [w64, wrap_in] <;> omega
  by_cases hlt : k < N
  · have q : decide (x + k ≤ y) = true := decide_eq_true (by omega)
    have hp := fun up => hall up (x + k) (by omega) (by omega)
    have hpt := fun up => c_rpitched (gl := gl) up f (x + k)
    have hstep : limTo g m (N - k) (x + k) = match g (x + k) with
        | some t => bif decide (t.2 ≤ m) then some (x + k) else limTo g m (N - (k + 1)) (x + ((k + 1 : Nat) : Int))
        | none => limTo g m (N - (k + 1)) (x + ((k + 1 : Nat) : Int)) := by
      rw [show N - k = (N - (k + 1)) + 1 by omega, show x + ((k + 1 : Nat) : Int) = x + k + 1 by omega]; rfl
    cases hgk : g (x + k) with
    | none =>
      rw [hgk] at hp hstep
      conv => whnf
      split
      rotate_left
      · rename_i h
        exact Bool.noConfusion ((q).symm.trans h)
      rename_i hN
      clear hN
      conv => whnf
      first
        | refine .mk 0 (by decide +kernel) ?_
        | refine .mk 1 (by decide +kernel) ?_
        | refine .mk 2 (by decide +kernel) ?_
        | refine .mk 3 (by decide +kernel) ?_
        | refine .mk 4 (by decide +kernel) ?_
        | refine .mk 5 (by decide +kernel) ?_
        | refine .mk 6 (by decide +kernel) ?_
        | refine .mk 7 (by decide +kernel) ?_
        | refine .mk 8 (by decide +kernel) ?_
        | refine .mk 9 (by decide +kernel) ?_
        | refine .mk 10 (by decide +kernel) ?_
        | refine .mk 11 (by decide +kernel) ?_
        | refine .mk 12 (by decide +kernel) ?_
        | refine .mk 13 (by decide +kernel) ?_
        | refine .mk 14 (by decide +kernel) ?_
        | refine .mk 15 (by decide +kernel) ?_
        | refine .mk 16 (by decide +kernel) ?_
        | refine .mk 17 (by decide +kernel) ?_
        | refine .mk 18 (by decide +kernel) ?_
        | refine .mk 19 (by decide +kernel) ?_
        | refine .mk 20 (by decide +kernel) ?_
        | refine .mk 21 (by decide +kernel) ?_
        | refine .mk 22 (by decide +kernel) ?_
        | refine .mk 23 (by decide +kernel) ?_
        | refine .mk 24 (by decide +kernel) ?_
        | refine .mk 25 (by decide +kernel) ?_
        | refine .mk 26 (by decide +kernel) ?_
        | refine .mk 27 (by decide +kernel) ?_
        | refine .mk 28 (by decide +kernel) ?_
        | refine .mk 29 (by decide +kernel) ?_
        | refine .mk 30 (by decide +kernel) ?_
        | refine .mk 31 (by decide +kernel) ?_
        | refine .mk 32 (by decide +kernel) ?_
        | refine .mk 33 (by decide +kernel) ?_
        | refine .mk 34 (by decide +kernel) ?_
        | refine .mk 35 (by decide +kernel) ?_
        | refine .mk 36 (by decide +kernel) ?_
        | refine .mk 37 (by decide +kernel) ?_
        | refine .mk 38 (by decide +kernel) ?_
        | refine .mk 39 (by decide +kernel) ?_
        | refine .mk 40 (by decide +kernel) ?_
        | refine .mk 41 (by decide +kernel) ?_
      conv => whnf
      repeat first
        | (show DRAW _ _ _ _ _; (first | refine .mk 0 (by decide +kernel) ?_ | refine .mk 1 (by decide +kernel) ?_ | refine .mk 2 (by decide +kernel) ?_ | refine .mk 3 (by decide +kernel) ?_ | refine .mk 4 (by decide +kernel) ?_ | refine .mk 5 (by decide +kernel) ?_ | refine .mk 6 (by decide +kernel) ?_ | refine .mk 7 (by decide +kernel) ?_ | refine .mk 8 (by decide +kernel) ?_ | refine .mk 9 (by decide +kernel) ?_ | refine .mk 10 (by decide +kernel) ?_ | refine .mk 11 (by decide +kernel) ?_ | refine .mk 12 (by decide +kernel) ?_ | refine .mk 13 (by decide +kernel) ?_ | refine .mk 14 (by decide +kernel) ?_ | refine .mk 15 (by decide +kernel) ?_ | refine .mk 16 (by decide +kernel) ?_ | refine .mk 17 (by decide +kernel) ?_ | refine .mk 18 (by decide +kernel) ?_ | refine .mk 19 (by decide +kernel) ?_ | refine .mk 20 (by decide +kernel) ?_ | refine .mk 21 (by decide +kernel) ?_ | refine .mk 22 (by decide +kernel) ?_ | refine .mk 23 (by decide +kernel) ?_ | refine .mk 24 (by decide +kernel) ?_ | refine .mk 25 (by decide +kernel) ?_ | refine .mk 26 (by decide +kernel) ?_ | refine .mk 27 (by decide +kernel) ?_ | refine .mk 28 (by decide +kernel) ?_ | refine .mk 29 (by decide +kernel) ?_ | refine .mk 30 (by decide +kernel) ?_ | refine .mk 31 (by decide +kernel) ?_ | refine .mk 32 (by decide +kernel) ?_ | refine .mk 33 (by decide +kernel) ?_ | refine .mk 34 (by decide +kernel) ?_ | refine .mk 35 (by decide +kernel) ?_ | refine .mk 36 (by decide +kernel) ?_ | refine .mk 37 (by decide +kernel) ?_ | refine .mk 38 (by decide +kernel) ?_ | refine .mk 39 (by decide +kernel) ?_ | refine .mk 40 (by decide +kernel) ?_ | refine .mk 41 (by decide +kernel) ?_); (conv => whnf))
        | (refine HOLD.mk (by first | exact trivial | exact ⟨⟨rfl, rfl⟩, trivial⟩ | exact ⟨⟨rfl, rfl⟩, ⟨rfl, rfl⟩, trivial⟩) ?_; (conv => whnf))
        | (refine CALL0.mk _ _ _ _ _ (leL_refl _) (hpt ..) rfl ?_; conv => whnf)
        | (refine CALLQ.mk _ _ _ (leL_refl _) (hpt ..) rfl ?_; conv => whnf)
        | (refine CALL0.mk _ _ _ _ _ (leL_refl _) (hp ..) rfl ?_; conv => whnf)
        | (refine CALLQ.mk _ _ _ (leL_refl _) (hp ..) rfl ?_; conv => whnf)
      exact ⟨⟨k + 1, hlt, by rw [hRk, hstep]⟩, ⟨⟨leV_int hw, leV_refl _, leV_refl _, leV_refl _, leV_refl _, leV_refl _, trivial⟩, ⟨leL_refl _, leL_refl _, trivial⟩, rfl, rfl⟩, (by show N - (k + 1) < N - k; omega)⟩
    | some t =>
      rw [hgk] at hp hstep
      simp only at hstep
      cases q2 : decide (t.2 ≤ m) with
      | true =>
        rw [q2, cond_true] at hstep
        have hRs : R = some (x + k) := by rw [hRk, hstep]
        conv => whnf
        split
        rotate_left
        · rename_i h
          exact Bool.noConfusion ((q).symm.trans h)
        rename_i hN
        clear hN
        conv => whnf
        first
          | refine .mk 0 (by decide +kernel) ?_
          | refine .mk 1 (by decide +kernel) ?_
          | refine .mk 2 (by decide +kernel) ?_
          | refine .mk 3 (by decide +kernel) ?_
          | refine .mk 4 (by decide +kernel) ?_
          | refine .mk 5 (by decide +kernel) ?_
          | refine .mk 6 (by decide +kernel) ?_
          | refine .mk 7 (by decide +kernel) ?_
          | refine .mk 8 (by decide +kernel) ?_
          | refine .mk 9 (by decide +kernel) ?_
          | refine .mk 10 (by decide +kernel) ?_
          | refine .mk 11 (by decide +kernel) ?_
          | refine .mk 12 (by decide +kernel) ?_
          | refine .mk 13 (by decide +kernel) ?_
          | refine .mk 14 (by decide +kernel) ?_
          | refine .mk 15 (by decide +kernel) ?_
          | refine .mk 16 (by decide +kernel) ?_
          | refine .mk 17 (by decide +kernel) ?_
          | refine .mk 18 (by decide +kernel) ?_
          | refine .mk 19 (by decide +kernel) ?_
          | refine .mk 20 (by decide +kernel) ?_
          | refine .mk 21 (by decide +kernel) ?_
          | refine .mk 22 (by decide +kernel) ?_
          | refine .mk 23 (by decide +kernel) ?_
          | refine .mk 24 (by decide +kernel) ?_
          | refine .mk 25 (by decide +kernel) ?_
          | refine .mk 26 (by decide +kernel) ?_
          | refine .mk 27 (by decide +kernel) ?_
          | refine .mk 28 (by decide +kernel) ?_
          | refine .mk 29 (by decide +kernel) ?_
          | refine .mk 30 (by decide +kernel) ?_
          | refine .mk 31 (by decide +kernel) ?_
          | refine .mk 32 (by decide +kernel) ?_
          | refine .mk 33 (by decide +kernel) ?_
          | refine .mk 34 (by decide +kernel) ?_
          | refine .mk 35 (by decide +kernel) ?_
          | refine .mk 36 (by decide +kernel) ?_
          | refine .mk 37 (by decide +kernel) ?_
          | refine .mk 38 (by decide +kernel) ?_
          | refine .mk 39 (by decide +kernel) ?_
          | refine .mk 40 (by decide +kernel) ?_
          | refine .mk 41 (by decide +kernel) ?_
        conv => whnf
        repeat first
          | (show DRAW _ _ _ _ _; (first | refine .mk 0 (by decide +kernel) ?_ | refine .mk 1 (by decide +kernel) ?_ | refine .mk 2 (by decide +kernel) ?_ | refine .mk 3 (by decide +kernel) ?_ | refine .mk 4 (by decide +kernel) ?_ | refine .mk 5 (by decide +kernel) ?_ | refine .mk 6 (by decide +kernel) ?_ | refine .mk 7 (by decide +kernel) ?_ | refine .mk 8 (by decide +kernel) ?_ | refine .mk 9 (by decide +kernel) ?_ | refine .mk 10 (by decide +kernel) ?_ | refine .mk 11 (by decide +kernel) ?_ | refine .mk 12 (by decide +kernel) ?_ | refine .mk 13 (by decide +kernel) ?_ | refine .mk 14 (by decide +kernel) ?_ | refine .mk 15 (by decide +kernel) ?_ | refine .mk 16 (by decide +kernel) ?_ | refine .mk 17 (by decide +kernel) ?_ | refine .mk 18 (by decide +kernel) ?_ | refine .mk 19 (by decide +kernel) ?_ | refine .mk 20 (by decide +kernel) ?_ | refine .mk 21 (by decide +kernel) ?_ | refine .mk 22 (by decide +kernel) ?_ | refine .mk 23 (by decide +kernel) ?_ | refine .mk 24 (by decide +kernel) ?_ | refine .mk 25 (by decide +kernel) ?_ | refine .mk 26 (by decide +kernel) ?_ | refine .mk 27 (by decide +kernel) ?_ | refine .mk 28 (by decide +kernel) ?_ | refine .mk 29 (by decide +kernel) ?_ | refine .mk 30 (by decide +kernel) ?_ | refine .mk 31 (by decide +kernel) ?_ | refine .mk 32 (by decide +kernel) ?_ | refine .mk 33 (by decide +kernel) ?_ | refine .mk 34 (by decide +kernel) ?_ | refine .mk 35 (by decide +kernel) ?_ | refine .mk 36 (by decide +kernel) ?_ | refine .mk 37 (by decide +kernel) ?_ | refine .mk 38 (by decide +kernel) ?_ | refine .mk 39 (by decide +kernel) ?_ | refine .mk 40 (by decide +kernel) ?_ | refine .mk 41 (by decide +kernel) ?_); (conv => whnf))
          | (refine HOLD.mk (by first | exact trivial | exact ⟨⟨rfl, rfl⟩, trivial⟩ | exact ⟨⟨rfl, rfl⟩, ⟨rfl, rfl⟩, trivial⟩) ?_; (conv => whnf))
          | (refine CALL0.mk _ _ _ _ _ (leL_refl _) (hpt ..) rfl ?_; conv => whnf)
          | (refine CALLQ.mk _ _ _ (leL_refl _) (hpt ..) rfl ?_; conv => whnf)
          | (refine CALL0.mk _ _ _ _ _ (leL_refl _) (hp ..) rfl ?_; conv => whnf)
          | (refine CALLQ.mk _ _ _ (leL_refl _) (hp ..) rfl ?_; conv => whnf)
        split
        rotate_left
        · rename_i h
          exact Bool.noConfusion ((q2).symm.trans h)
        rename_i hN
        clear hN
        conv => whnf
        refine ⟨?_, rfl⟩
        exact (congrArg limO hRs).symm
      | false =>
        rw [q2, cond_false] at hstep
        conv => whnf
        split
        rotate_left
        · rename_i h
          exact Bool.noConfusion ((q).symm.trans h)
        rename_i hN
        clear hN
        conv => whnf
        first
          | refine .mk 0 (by decide +kernel) ?_
          | refine .mk 1 (by decide +kernel) ?_
          | refine .mk 2 (by decide +kernel) ?_
          | refine .mk 3 (by decide +kernel) ?_
          | refine .mk 4 (by decide +kernel) ?_
          | refine .mk 5 (by decide +kernel) ?_
          | refine .mk 6 (by decide +kernel) ?_
          | refine .mk 7 (by decide +kernel) ?_
          | refine .mk 8 (by decide +kernel) ?_
          | refine .mk 9 (by decide +kernel) ?_
          | refine .mk 10 (by decide +kernel) ?_
          | refine .mk 11 (by decide +kernel) ?_
          | refine .mk 12 (by decide +kernel) ?_
          | refine .mk 13 (by decide +kernel) ?_
          | refine .mk 14 (by decide +kernel) ?_
          | refine .mk 15 (by decide +kernel) ?_
          | refine .mk 16 (by decide +kernel) ?_
          | refine .mk 17 (by decide +kernel) ?_
          | refine .mk 18 (by decide +kernel) ?_
          | refine .mk 19 (by decide +kernel) ?_
          | refine .mk 20 (by decide +kernel) ?_
          | refine .mk 21 (by decide +kernel) ?_
          | refine .mk 22 (by decide +kernel) ?_
          | refine .mk 23 (by decide +kernel) ?_
          | refine .mk 24 (by decide +kernel) ?_
          | refine .mk 25 (by decide +kernel) ?_
          | refine .mk 26 (by decide +kernel) ?_
          | refine .mk 27 (by decide +kernel) ?_
          | refine .mk 28 (by decide +kernel) ?_
          | refine .mk 29 (by decide +kernel) ?_
          | refine .mk 30 (by decide +kernel) ?_
          | refine .mk 31 (by decide +kernel) ?_
          | refine .mk 32 (by decide +kernel) ?_
          | refine .mk 33 (by decide +kernel) ?_
          | refine .mk 34 (by decide +kernel) ?_
          | refine .mk 35 (by decide +kernel) ?_
          | refine .mk 36 (by decide +kernel) ?_
          | refine .mk 37 (by decide +kernel) ?_
          | refine .mk 38 (by decide +kernel) ?_
          | refine .mk 39 (by decide +kernel) ?_
          | refine .mk 40 (by decide +kernel) ?_
          | refine .mk 41 (by decide +kernel) ?_
        conv => whnf
        repeat first
          | (show DRAW _ _ _ _ _; (first | refine .mk 0 (by decide +kernel) ?_ | refine .mk 1 (by decide +kernel) ?_ | refine .mk 2 (by decide +kernel) ?_ | refine .mk 3 (by decide +kernel) ?_ | refine .mk 4 (by decide +kernel) ?_ | refine .mk 5 (by decide +kernel) ?_ | refine .mk 6 (by decide +kernel) ?_ | refine .mk 7 (by decide +kernel) ?_ | refine .mk 8 (by decide +kernel) ?_ | refine .mk 9 (by decide +kernel) ?_ | refine .mk 10 (by decide +kernel) ?_ | refine .mk 11 (by decide +kernel) ?_ | refine .mk 12 (by decide +kernel) ?_ | refine .mk 13 (by decide +kernel) ?_ | refine .mk 14 (by decide +kernel) ?_ | refine .mk 15 (by decide +kernel) ?_ | refine .mk 16 (by decide +kernel) ?_ | refine .mk 17 (by decide +kernel) ?_ | refine .mk 18 (by decide +kernel) ?_ | refine .mk 19 (by decide +kernel) ?_ | refine .mk 20 (by decide +kernel) ?_ | refine .mk 21 (by decide +kernel) ?_ | refine .mk 22 (by decide +kernel) ?_ | refine .mk 23 (by decide +kernel) ?_ | refine .mk 24 (by decide +kernel) ?_ | refine .mk 25 (by decide +kernel) ?_ | refine .mk 26 (by decide +kernel) ?_ | refine .mk 27 (by decide +kernel) ?_ | refine .mk 28 (by decide +kernel) ?_ | refine .mk 29 (by decide +kernel) ?_ | refine .mk 30 (by decide +kernel) ?_ | refine .mk 31 (by decide +kernel) ?_ | refine .mk 32 (by decide +kernel) ?_ | refine .mk 33 (by decide +kernel) ?_ | refine .mk 34 (by decide +kernel) ?_ | refine .mk 35 (by decide +kernel) ?_ | refine .mk 36 (by decide +kernel) ?_ | refine .mk 37 (by decide +kernel) ?_ | refine .mk 38 (by decide +kernel) ?_ | refine .mk 39 (by decide +kernel) ?_ | refine .mk 40 (by decide +kernel) ?_ | refine .mk 41 (by decide +kernel) ?_); (conv => whnf))
          | (refine HOLD.mk (by first | exact trivial | exact ⟨⟨rfl, rfl⟩, trivial⟩ | exact ⟨⟨rfl, rfl⟩, ⟨rfl, rfl⟩, trivial⟩) ?_; (conv => whnf))
          | (refine CALL0.mk _ _ _ _ _ (leL_refl _) (hpt ..) rfl ?_; conv => whnf)
          | (refine CALLQ.mk _ _ _ (leL_refl _) (hpt ..) rfl ?_; conv => whnf)
          | (refine CALL0.mk _ _ _ _ _ (leL_refl _) (hp ..) rfl ?_; conv => whnf)
          | (refine CALLQ.mk _ _ _ (leL_refl _) (hp ..) rfl ?_; conv => whnf)
        split
        · rename_i h
          exact Bool.noConfusion ((q2).symm.trans h)
        rename_i hN
        clear hN
        conv => whnf
        exact ⟨⟨k + 1, hlt, by rw [hRk, hstep]⟩, ⟨⟨leV_int hw, leV_refl _, leV_refl _, leV_refl _, leV_refl _, leV_refl _, trivial⟩, ⟨leL_refl _, leL_refl _, trivial⟩, rfl, rfl⟩, (by show N - (k + 1) < N - k; omega)⟩
  · have q : decide (x + k ≤ y) = false := decide_eq_false (by omega)
    have : k = N := by omega
    subst this
    have hRs : R = none := by rw [hRk, Nat.sub_self]; rfl
    conv => whnf
    split
    · rename_i h
      exact Bool.noConfusion ((q).symm.trans h)
    rename_i hN
    clear hN
    conv => whnf
    refine ⟨?_, rfl⟩
    exact (congrArg limO hRs).symm
end Go.Proofs.YtllmejkmogepjaaGreatDoor.Ix

/-
  Ro8: contracts of the functions of the package rotor, the eighth part: records.
-/
namespace Go.Proofs.YtllmejkmogepjaaGreatDoor.Ix
open Go.Proofs
set_option maxRecDepth 100000
set_option linter.unusedVariables false
set_option linter.unusedSimpArgs false
variable {gl : Nat → IV}

abbrev loadsI (o : Option Nat) (n : Nat) (x y z : Nat → Int) : IV := .lst o 3 n fun i => [.int .i64 (x i), .int .i64 (y i), .int .i64 (z i)]

theorem c_mapped3 (up : List Ces) (n : Nat) (hn : n ≤ 1000000) (x y z φ : Nat → Int) (k : Nat) (hk : ∀ up i, i < n → Cs gl k up [.agg [.int .i64 (x i), .int .i64 (y i), .int .i64 (z i)]] (.int .i64 (φ i)) up) :
    Cs gl n_rotor_mapped_3_int_api_Errno up [loadsI none n x y z, .fn k [] []] (.lst (some 19) 1 n fun i => [.int .i64 (φ i)]) up := by
  refine mk h_rotor_mapped_3_int_api_Errno rfl rfl ?_
  conv => whnf
  refine .mk (α := {i : Nat // i ≤ n}) (fun i => ⟨[(10, .int .i64 i.1), (9, .int .i64 n), (8, loadsI none n x y z), (5, .lst (some 19) 1 i.1 fun i => [.int .i64 (φ i)]), (1, .fn k [] [])], [], up⟩) (fun i => n - i.1) ⟨0, Nat.zero_le _⟩ ⟨?_, trivial, rfl, rfl⟩ ?_
  · exact ⟨leV_refl _, leV_refl _, leV_refl _, rfl, leV_refl _, trivial⟩
  · rintro ⟨i, hi⟩
    conv => whnf
    split
    · rename_i hb
      have hlt : i < n := by simpa using hb
      conv => whnf
      split
      rotate_left
      · rename_i h
        have h' : decide ((i : Int) < n) = false := h
        simp at h' <;> omega
      conv => whnf
      refine .mk _ _ _ _ _ (leL_refl _) (hk _ i hlt) rfl ?_
      conv => whnf
      split
      rotate_left
      · rename_i h
        have h' : decide (i + 1 ≤ 1073741824) = false := h
        simp at h' <;> omega
      conv => whnf
      refine ⟨⟨i + 1, hlt⟩, ⟨⟨leV_int ?_, leV_refl _, leV_refl _, ⟨.inr rfl, rfl, rfl, fun j hj => ?_⟩, leV_refl _, trivial⟩, trivial, rfl, rfl⟩, (by show n - (i + 1) < n - i; omega)⟩
      · show w64 ((i : Int) + 1) = ((i + 1 : Nat) : Int)
        rw [w64, wrap_in] <;> omega
      · show (if j < i then [IV.int .i64 (φ j)] else litF 1 [.int .i64 (φ i)] (j - i)) = [IV.int .i64 (φ j)]
        split
        · rfl
        · have : j = i := by have : j < i + 1 := hj; omega
          subst this; rw [Nat.sub_self]; rfl
    · rename_i hb
      have : i = n := by simp at hb; omega
      subst this
      conv => whnf
      exact ⟨rfl, rfl⟩

def recE (n : Nat) (x y z : Nat → Int) : Int := firstS (fun i => loadS (x i) (y i) (z i)) n 0

/-- The sum of what is made of the components of a record, or the error. -/
def recR (n : Nat) (x y z : Nat → Int) (φ : Int → Int → Nat → Int × Int) : IV :=
  bif decide ((n : Int) > 400) then .tup [.agg [.int .i64 0, .int .i64 0], .int .i64 5] else
    bif recE n x y z != 0 then .tup [.agg [.int .i64 0, .int .i64 0], .int .i64 (recE n x y z)] else
      .tup [.agg [.int .i64 (sumTo (fun i => (φ (x i - z i) (y i - z i) i).1) n), .int .i64 (sumTo (fun i => (φ (x i - z i) (y i - z i) i).2) n)], .int .i64 0]

theorem recE_ok {n : Nat} {x y z : Nat → Int} (h : recE n x y z = 0) : ∀ i, i < n → (-1000000 ≤ x i ∧ x i ≤ 1000000) ∧ (-1000000 ≤ y i ∧ y i ≤ 1000000) ∧ (-1000000 ≤ z i ∧ z i ≤ 1000000) := fun i hi => by
  unfold recE at h
  rw [firstS_zero] at h
  exact loadS_ok (h i (by omega) (by omega))

theorem c_record (up : List Ces) (n : Nat) (x y z : Nat → Int) (F : Nat) (φ : Int → Int → Nat → Int × Int) (h00 : ∀ t, φ 0 0 t = (0, 0))
    (hφ : ∀ a b t, -2000000 ≤ a → a ≤ 2000000 → -2000000 ≤ b → b ≤ 2000000 → (-4000000 ≤ (φ a b t).1 ∧ (φ a b t).1 ≤ 4000000) ∧ (-4000000 ≤ (φ a b t).2 ∧ (φ a b t).2 ≤ 4000000))
    (hF : ∀ up a b (t : Nat), t < 400 → -2000000 ≤ a → a ≤ 2000000 → -2000000 ≤ b → b ≤ 2000000 → Cs gl F up [.agg [.int .i64 a, .int .i64 b], .int .i64 t] (.agg [.int .i64 (φ a b t).1, .int .i64 (φ a b t).2]) up) :
    Cs gl n_rotor_record up [loadsI none n x y z, .fn F [] []] (recR n x y z φ) up := by
  refine mk h_rotor_record rfl rfl ?_
  unfold recR
  conv => whnf
  split
  · rename_i h
    have h : decide ((n : Int) > 400) = true := h
    rw [h]
    conv => whnf
    exact ⟨rfl, rfl⟩
  · rename_i h
    have h : decide ((n : Int) > 400) = false := h
    rw [h, cond_false]
    have hn : n ≤ 400 := by simp at h; omega
    conv => whnf
    refine .mk _ _ _ _ _ (leL_refl _) (c_mapped3 _ n (by omega) x y z (fun i => loadS (x i) (y i) (z i)) _ (fun up i _ => c_checkLoads up _ _ _)) rfl ?_
    conv => whnf
    refine .mk _ _ _ _ _ (leL_refl _) (c_first _ n (by omega) fun i => loadS (x i) (y i) (z i)) rfl ?_
    conv => whnf
    split
    · rename_i h
      have h : (recE n x y z != 0) = true := h
      rw [h]
      conv => whnf
      exact ⟨rfl, rfl⟩
    · rename_i h
      have h : (recE n x y z != 0) = false := h
      rw [h, cond_false]
      have hok := recE_ok (show recE n x y z = 0 by simpa using h)
      have hb : ∀ i, i < n → (-4000000 ≤ (φ (x i - z i) (y i - z i) i).1 ∧ (φ (x i - z i) (y i - z i) i).1 ≤ 4000000) ∧ (-4000000 ≤ (φ (x i - z i) (y i - z i) i).2 ∧ (φ (x i - z i) (y i - z i) i).2 ≤ 4000000) := fun i hi => by
        have := hok i hi
        exact hφ _ _ i (by omega) (by omega) (by omega) (by omega)
      conv => whnf
      split
      rotate_left
      · rename_i h
        have h' : decide ((n : Int) ≤ 1073741824) = false := h
        simp at h' <;> omega
      conv => whnf
      split
      rotate_left
      · rename_i h
        have h' : decide ((n : Int) = n) = false := h
        simp at h' <;> omega
      conv => whnf
      split
      rotate_left
      · rename_i h
        have h' : decide (n = ((n : Int)).toNat) = false := h
        simp at h' <;> omega
      conv => whnf
      refine .mk (α := {k : Nat // k ≤ n}) (fun k => ⟨[(31, .int .i64 k.1), (30, .int .i64 n), (29, loadsI none n x y z), (1, .fn F [] []), (4, .ptr 0 4 0), (8, .ptr 0 8 0)],
        [(8, [.int .i64 (sumTo (fun i => (φ (x i - z i) (y i - z i) i).1) k.1), .int .i64 (sumTo (fun i => (φ (x i - z i) (y i - z i) i).2) k.1)]), (4, [.int .i64 0, .int .i64 0])], up⟩) (fun k => n - k.1) ⟨0, Nat.zero_le _⟩ ⟨?_, ?_, rfl, rfl⟩ ?_
      · exact ⟨leV_refl _, leV_refl _, leV_view _ _ _ _, leV_refl _, leV_refl _, leV_refl _, trivial⟩
      · exact ⟨leL_refl _, leL_refl _, trivial⟩
      rintro ⟨k, hk⟩
      conv => whnf
      split
      · rename_i hb'
        have hlt : k < n := by
          have hb' : decide ((k : Int) < n) = true := hb'
          simpa using hb'
        have ho := hok k hlt
        have hq := hb k hlt
        have hw : w64 ((k : Int) + 1) = ((k + 1 : Nat) : Int) := by rw [w64, wrap_in] <;> omega
        have e1 : w64 (x k - z k) = x k - z k := by rw [w64, wrap_in] <;> omega
        have e2 : w64 (y k - z k) = y k - z k := by rw [w64, wrap_in] <;> omega
        have s1 := sumTo_bound (g := fun i => (φ (x i - z i) (y i - z i) i).1) (B := 4000000) k fun i hi => (hb i (by omega)).1
        have s2 := sumTo_bound (g := fun i => (φ (x i - z i) (y i - z i) i).2) (B := 4000000) k fun i hi => (hb i (by omega)).2
        have t1 : w64 (sumTo (fun i => (φ (x i - z i) (y i - z i) i).1) k + (φ (x k - z k) (y k - z k) k).1) = sumTo (fun i => (φ (x i - z i) (y i - z i) i).1) (k + 1) := by
          rw [w64, wrap_in]; rfl; omega; omega
        have t2 : w64 (sumTo (fun i => (φ (x i - z i) (y i - z i) i).2) k + (φ (x k - z k) (y k - z k) k).2) = sumTo (fun i => (φ (x i - z i) (y i - z i) i).2) (k + 1) := by
          rw [w64, wrap_in]; rfl; omega; omega
        conv => whnf
        split
        rotate_left
        · rename_i h
          have h' : decide ((k : Int) < n) = false := h
          simp at h' <;> omega
        conv => whnf
        refine .mk _ _ _ _ _ (leL_refl _) (c_component _ _ _ _) rfl ?_
        conv => whnf
        split
        · rename_i h
          have h : (w64 (x k - z k) == 0 && (w64 (y k - z k) == 0 && true)) = true := h
          rw [e1, e2] at h
          simp at h
          have p1 : sumTo (fun i => (φ (x i - z i) (y i - z i) i).1) (k + 1) = sumTo (fun i => (φ (x i - z i) (y i - z i) i).1) k := by
            show sumTo _ k + (φ (x k - z k) (y k - z k) k).1 = _
            rw [h.1, h.2, h00]; simp
          have p2 : sumTo (fun i => (φ (x i - z i) (y i - z i) i).2) (k + 1) = sumTo (fun i => (φ (x i - z i) (y i - z i) i).2) k := by
            show sumTo _ k + (φ (x k - z k) (y k - z k) k).2 = _
            rw [h.1, h.2, h00]; simp
          conv => whnf
          exact ⟨⟨k + 1, hlt⟩, ⟨⟨leV_int hw, leV_refl _, leV_refl _, leV_refl _, leV_refl _, leV_refl _, trivial⟩, ⟨⟨leV_int p1.symm, leV_int p2.symm, trivial⟩, leL_refl _, trivial⟩, rfl, rfl⟩, (by show n - (k + 1) < n - k; omega)⟩
        · have hFw : ∀ up, Cs gl F up [.agg [.int .i64 (w64 (x k - z k)), .int .i64 (w64 (y k - z k))], .int .i64 k] (.agg [.int .i64 (φ (x k - z k) (y k - z k) k).1, .int .i64 (φ (x k - z k) (y k - z k) k).2]) up := fun up => by
            rw [e1, e2]
            exact hF up _ _ k (by omega) (by omega) (by omega) (by omega) (by omega)
          conv => whnf
          refine .mk _ _ _ _ _ (leL_refl _) (hFw _) rfl ?_
          conv => whnf
          exact ⟨⟨k + 1, hlt⟩, ⟨⟨leV_int hw, leV_refl _, leV_refl _, leV_refl _, leV_refl _, leV_refl _, trivial⟩, ⟨⟨leV_int t1, leV_int t2, trivial⟩, leL_refl _, trivial⟩, rfl, rfl⟩, (by show n - (k + 1) < n - k; omega)⟩
      · rename_i hb'
        have : k = n := by
          have hb' : decide ((k : Int) < n) = false := hb'
          simp at hb'; omega
        subst this
        conv => whnf
        exact ⟨rfl, rfl⟩

theorem c_Rot1 (up : List Ces) (a b t : Int) : Cs gl n_rotor_Rotating_1 up [.agg [.int .i64 a, .int .i64 b], .int .i64 t] (.agg [.int .i64 a, .int .i64 b]) up := by
  refine mk h_rotor_Rotating_1 rfl rfl ?_
  conv => whnf
  exact ⟨rfl, rfl⟩

/-- What Rotating and Fixed hand back. -/
def rotR (n : Nat) (x y z : Nat → Int) : IV := recR n x y z fun a b _ => (a, b)
def fixR (n : Nat) (x y z : Nat → Int) : IV := recR n x y z fun a b t => turnP a b t

theorem recR_tup (n : Nat) (x y z : Nat → Int) (φ : Int → Int → Nat → Int × Int) : ∃ A B E, recR n x y z φ = .tup [.agg [.int .i64 A, .int .i64 B], .int .i64 E] := by
  unfold recR
  cases decide ((n : Int) > 400) <;> cases recE n x y z != 0 <;> exact ⟨_, _, _, rfl⟩

theorem c_Rotating (up : List Ces) (n : Nat) (x y z : Nat → Int) : Cs gl n_rotor_Rotating up [loadsI none n x y z] (rotR n x y z) up := by
  refine mk h_rotor_Rotating rfl rfl ?_
  have h := fun up => c_record (gl := gl) up n x y z n_rotor_Rotating_1 (fun a b _ => (a, b)) (fun _ => rfl) (fun a b t h1 h2 h3 h4 => ⟨⟨by omega, by omega⟩, by omega, by omega⟩) (fun up a b t _ _ _ _ _ => c_Rot1 up a b t)
  unfold rotR
  obtain ⟨A, B, E, e⟩ := recR_tup n x y z fun a b _ => (a, b)
  rw [e] at h ⊢
  conv => whnf
  refine .mk _ _ _ _ _ (leL_refl _) (h _) rfl ?_
  conv => whnf
  exact ⟨rfl, rfl⟩

theorem c_Fixed (up : List Ces) (hg : gl g_rotor_roots = rootsI) (n : Nat) (x y z : Nat → Int) : Cs gl n_rotor_Fixed up [loadsI none n x y z] (fixR n x y z) up := by
  refine mk h_rotor_Fixed rfl rfl ?_
  have h := fun up => c_record (gl := gl) up n x y z n_rotor_Pair_turned (fun a b t => turnP a b t) (fun t => by unfold turnP; split; rfl; split <;> rfl)
    (fun a b t h1 h2 h3 h4 => by unfold turnP; split; exact ⟨⟨by simp only; omega, by simp only; omega⟩, by simp only; omega, by simp only; omega⟩; split <;> exact ⟨⟨by simp only; omega, by simp only; omega⟩, by simp only; omega, by simp only; omega⟩)
    (fun up a b t _ _ _ _ _ => c_turned up hg a b t (by omega) (by omega))
  unfold fixR
  obtain ⟨A, B, E, e⟩ := recR_tup n x y z fun a b t => turnP a b t
  rw [e] at h ⊢
  conv => whnf
  refine .mk _ _ _ _ _ (leL_refl _) (h _) rfl ?_
  conv => whnf
  exact ⟨rfl, rfl⟩
end Go.Proofs.YtllmejkmogepjaaGreatDoor.Ix

/-
  Aw1: the package rotor returns the results of the examples: awake() is true.
-/
namespace Go.Proofs.YtllmejkmogepjaaGreatDoor.Ix
open Go.Proofs
set_option maxRecDepth 100000
set_option linter.unusedVariables false
set_option linter.unusedSimpArgs false
variable {gl : Nat → IV}

/-- A result may be told otherwise. -/
theorem Comp.res {P : Program} {gl : Nat → IV} {g : Nat} {up up' : List Ces} {args : List IV} {r r' : IV} (h : Comp P gl g up args r up') (hle : leV r r') : Comp P gl g up args r' up' :=
  ⟨h.1, fun vals w I X β σ hm hl ha => (h.2 vals w I X β σ hm hl ha).mono fun e w' ⟨v, I', s, e1, e2, e3⟩ => ⟨v, I', s, e1, leV_sound _ _ _ hle e2, e3⟩⟩

/-- The blade of the examples. -/
def exB : Bl := ⟨3, 3, 1, fun i => [0, 1, 2].getD i 0, fun i => [0, 0, 1].getD i 0, fun _ => 2, fun _ => 1, fun _ => 0, fun _ => 256⟩
def exF (p : Int) : Fl := ⟨1, 256, p⟩

theorem c_sample (up : List Ces) : Cs gl n_nacellelaw03_sample up [] exB.iv up := by
  have h : Cs gl n_nacellelaw03_sample up [] (.agg [.lst (some 1) 1 3 (litF 1 [.int .i64 0, .int .i64 1, .int .i64 2]), .lst (some 2) 1 3 (litF 1 [.int .i64 0, .int .i64 0, .int .i64 1]), .lst (some 5) 4 1 (litF 4 [.int .i64 2, .int .i64 1, .int .i64 0, .int .i64 256])]) up := by
    refine mk h_nacellelaw03_sample rfl rfl ?_
    conv => whnf
    exact ⟨rfl, rfl⟩
  refine h.res ⟨⟨.inl rfl, rfl, rfl, fun i hi => ?_⟩, ⟨.inl rfl, rfl, rfl, fun i hi => ?_⟩, ⟨.inl rfl, rfl, rfl, fun i hi => ?_⟩, trivial⟩
  · match i, hi with
    | 0, _ => rfl
    | 1, _ => rfl
    | 2, _ => rfl
  · match i, hi with
    | 0, _ => rfl
    | 1, _ => rfl
    | 2, _ => rfl
  · match i, hi with
    | 0, _ => rfl

theorem c_breeze (up : List Ces) (p : Int) : Cs gl n_nacellelaw03_breeze up [.int .i64 p] (flowI 1 256 p) up := by
  refine mk h_nacellelaw03_breeze rfl rfl ?_
  conv => whnf
  exact ⟨rfl, rfl⟩

theorem a_Inflow (up : List Ces) : Cs gl n_rotor_Inflow up [exB.iv, flowI 1 256 0, .int .i64 0, .agg [.int .i64 1, .int .i64 3]] (.tup [.int .i64 1, .int .i64 0]) up := by
  rw [← show inflR exB (exF 0) 0 1 3 = .tup [.int .i64 1, .int .i64 0] by kernel_rfl]
  exact c_Inflow up exB (exF 0) 0 1 3

theorem a_Balance (up : List Ces) (a z : Int) (h : balR exB (exF 0) 0 a 3 = .tup [.int .i64 z, .int .i64 0]) : Cs gl n_rotor_Balance up [exB.iv, flowI 1 256 0, .int .i64 0, .agg [.int .i64 a, .int .i64 3]] (.tup [.int .i64 z, .int .i64 0]) up := by
  rw [← h]
  exact c_Balance up exB (exF 0) 0 a 3

theorem a_Find (up : List Ces) (p d a e z : Int) (h : findR exB (exF p) 0 d = .tup [.agg [.int .i64 a, .int .i64 e], .int .i64 z]) : Cs gl n_rotor_Find up [exB.iv, flowI 1 256 p, .int .i64 0, .int .i64 d] (.tup [.agg [.int .i64 a, .int .i64 e], .int .i64 z]) up := by
  rw [← h]
  exact c_Find up exB (exF p) 0 d

theorem a_Thrust (up : List Ces) : Cs gl n_rotor_Thrust up [exB.iv, flowI 1 256 0, .int .i64 3] (.tup [.agg [.int .i64 14336, .int .i64 24576], .int .i64 0]) up := by
  rw [← show sumR exB (exF 0) 3 (fun i a d => exB.thr i a d) = .tup [.agg [.int .i64 14336, .int .i64 24576], .int .i64 0] by kernel_rfl]
  exact c_Thrust up exB (exF 0) 3

theorem a_Torque (up : List Ces) (p d x y : Int) (h : sumR exB (exF p) d (fun i a d => exB.tor (exF p) i a d) = .tup [.agg [.int .i64 x, .int .i64 y], .int .i64 0]) : Cs gl n_rotor_Torque up [exB.iv, flowI 1 256 p, .int .i64 d] (.tup [.agg [.int .i64 x, .int .i64 y], .int .i64 0]) up := by
  rw [← h]
  exact c_Torque up exB (exF p) d

theorem a_Best (up : List Ces) : Cs gl n_rotor_Best up [exB.iv, flowI 1 256 0, .int .i64 3, .int .i64 (-1), .int .i64 1] (.tup [.int .i64 0, .agg [.int .i64 512, .int .i64 512], .int .i64 0]) up := by
  rw [← show bestR exB (exF 0) 3 (-1) 1 = .tup [.int .i64 0, .agg [.int .i64 512, .int .i64 512], .int .i64 0] by kernel_rfl]
  exact c_Best up exB (exF 0) 3 (-1) 1

theorem a_Limit (up : List Ces) (m e : Int) (h : limR exB (exF 0) 3 (-1) 1 m = .tup [.int .i64 0, .int .i64 e]) : Cs gl n_rotor_Limit up [exB.iv, flowI 1 256 0, .int .i64 3, .int .i64 (-1), .int .i64 1, .int .i64 m] (.tup [.int .i64 0, .int .i64 e]) up := by
  rw [← h]
  exact c_Limit up exB (exF 0) 3 (-1) 1 m

theorem a_Split (up : List Ces) : Cs gl n_rotor_Split up [.agg [.int .i64 4, .int .i64 1, .int .i64 1]] (.tup [.int .i64 6, .agg [.int .i64 3, .int .i64 0], .int .i64 0]) up := by
  rw [← show splitR 4 1 1 = .tup [.int .i64 6, .agg [.int .i64 3, .int .i64 0], .int .i64 0] by kernel_rfl]
  exact c_Split up 4 1 1

theorem a_Turn (up : List Ces) (hr : gl g_rotor_roots = rootsI) : Cs gl n_rotor_Turn up [.agg [.int .i64 3, .int .i64 0], .int .i64 1] (.tup [.agg [.int .i64 0, .int .i64 3], .int .i64 0]) up := by
  rw [← show turnR 3 0 1 = .tup [.agg [.int .i64 0, .int .i64 3], .int .i64 0] by kernel_rfl]
  exact c_Turn up hr 3 0 1

theorem a_Merge (up : List Ces) (a b x y z e : Int) (h : mergeR 6 a b = .tup [.agg [.int .i64 x, .int .i64 y, .int .i64 z], .int .i64 e]) : Cs gl n_rotor_Merge up [.int .i64 6, .agg [.int .i64 a, .int .i64 b]] (.tup [.agg [.int .i64 x, .int .i64 y, .int .i64 z], .int .i64 e]) up := by
  rw [← h]
  exact c_Merge up 6 a b

theorem a_Times (up : List Ces) : Cs gl n_rotor_Times up [.agg [.int .i64 1, .int .i64 2], .agg [.int .i64 1, .int .i64 2]] (.tup [.agg [.int .i64 (-3), .int .i64 0], .int .i64 0]) up := by
  rw [← show timesR 1 2 1 2 = .tup [.agg [.int .i64 (-3), .int .i64 0], .int .i64 0] by kernel_rfl]
  exact c_Times up 1 2 1 2

theorem a_Norm (up : List Ces) : Cs gl n_rotor_Norm up [.agg [.int .i64 1, .int .i64 2]] (.tup [.int .i64 3, .int .i64 0]) up := by
  rw [← show normR 1 2 = .tup [.int .i64 3, .int .i64 0] by kernel_rfl]
  exact c_Norm up 1 2

abbrev recF : Nat → List IV := litF 3 [.int .i64 4, .int .i64 1, .int .i64 1, .int .i64 1, .int .i64 4, .int .i64 1]
def recX (i : Nat) : Int := [4, 1].getD i 0
def recY (i : Nat) : Int := [1, 4].getD i 0
theorem rec_le : leL [.lst none 3 2 recF] [loadsI none 2 recX recY fun _ => 1] := ⟨⟨.inl rfl, rfl, rfl, fun i hi => by
  match i, hi with
  | 0, _ => rfl
  | 1, _ => rfl⟩, trivial⟩

theorem a_Rotating (up : List Ces) : Cs gl n_rotor_Rotating up [.lst none 3 2 recF] (.tup [.agg [.int .i64 3, .int .i64 3], .int .i64 0]) up := by
  rw [← show rotR 2 recX recY (fun _ => 1) = .tup [.agg [.int .i64 3, .int .i64 3], .int .i64 0] by kernel_rfl]
  exact Comp.le rec_le (c_Rotating up 2 recX recY fun _ => 1)

theorem a_Fixed (up : List Ces) (hr : gl g_rotor_roots = rootsI) : Cs gl n_rotor_Fixed up [.lst none 3 2 recF] (.tup [.agg [.int .i64 0, .int .i64 (-3)], .int .i64 0]) up := by
  rw [← show fixR 2 recX recY (fun _ => 1) = .tup [.agg [.int .i64 0, .int .i64 (-3)], .int .i64 0] by kernel_rfl]
  exact Comp.le rec_le (c_Fixed up hr 2 recX recY fun _ => 1)

theorem itoa_small {i : Nat} (h : i < 10) : Go.Lib.itoa (i : Int) = [UInt8.ofNat (48 + i)] := by rw [Go.Lib.itoa_nonneg, Go.Lib.decDigits_one h]
theorem itoa_256 : Go.Lib.itoa 256 = [50, 53, 54] := by
  rw [show (256 : Int) = ((256 : Nat) : Int) from rfl, Go.Lib.itoa_nonneg, Go.Lib.decDigits, dif_neg (by decide), Go.Lib.decDigits_two (by decide) (by decide)]
  rfl

abbrev exT : List UInt8 := [112, 111, 108, 97, 114, 32, 48, 32, 48, 32, 49, 32, 48, 32, 50, 32, 49, 10, 114, 105, 110, 103, 32, 50, 32, 49, 32, 48, 32, 50, 53, 54, 10]
theorem exB_text : exB.text = exT := by
  have i0 : Go.Lib.itoa 0 = [48] := itoa_small (i := 0) (by decide)
  have i1 : Go.Lib.itoa 1 = [49] := itoa_small (i := 1) (by decide)
  have i2 : Go.Lib.itoa 2 = [50] := itoa_small (i := 2) (by decide)
  have h1 : numsS exB.pol 6 = [32, 48, 32, 48, 32, 49, 32, 48, 32, 50, 32, 49] := by
    show ((((((([] : List UInt8) ++ 32 :: Go.Lib.itoa 0) ++ 32 :: Go.Lib.itoa 0) ++ 32 :: Go.Lib.itoa 1) ++ 32 :: Go.Lib.itoa 0) ++ 32 :: Go.Lib.itoa 2) ++ 32 :: Go.Lib.itoa 1) = _
    rw [i0, i1, i2]; rfl
  have h2 : numsS (exB.ring 0) 4 = [32, 50, 32, 49, 32, 48, 32, 50, 53, 54] := by
    show ((((([] : List UInt8) ++ 32 :: Go.Lib.itoa 2) ++ 32 :: Go.Lib.itoa 1) ++ 32 :: Go.Lib.itoa 0) ++ 32 :: Go.Lib.itoa 256) = _
    rw [i0, i1, i2, itoa_256]; rfl
  show (polarW ++ numsS exB.pol 6 ++ [10]) ++ ([] ++ (ringW ++ numsS (exB.ring 0) 4 ++ [10])) = _
  rw [h1, h2]; rfl

theorem a_Print (up : List Ces) (hp : gl g_internal_strconv_uint64pow10 = powI) : Cs gl n_rotor_Print up [exB.iv] (.tup [.str (bytesS exT), .int .i64 0]) up := by
  have h := c_Print up hp exB
  unfold printR at h
  rw [exB_text, show (exB.err != 0) = false by kernel_rfl] at h
  exact h

theorem c_awake (up : List Ces) (hr : gl g_rotor_roots = rootsI) (hp : gl g_internal_strconv_uint64pow10 = powI) : Cs gl n_nacellelaw03_awake up [] (.bool true) up := by
  refine mk h_nacellelaw03_awake rfl rfl ?_
  conv => whnf
  refine .mk _ _ _ _ _ (leL_refl _) (c_sample _) rfl ?_
  conv => whnf
  refine .mk _ _ _ _ _ (leL_refl _) (c_breeze _ _) rfl ?_
  conv => whnf
  refine .mk _ _ _ _ _ (leL_refl _) (a_Inflow _) rfl ?_
  conv => whnf
  refine .mk _ _ _ _ _ (leL_refl _) (c_sample _) rfl ?_
  conv => whnf
  refine .mk _ _ _ _ _ (leL_refl _) (c_breeze _ _) rfl ?_
  conv => whnf
  refine .mk _ _ _ _ _ (leL_refl _) (a_Balance _ 0 (-32768) (by kernel_rfl)) rfl ?_
  conv => whnf
  refine .mk _ _ _ _ _ (leL_refl _) (c_sample _) rfl ?_
  conv => whnf
  refine .mk _ _ _ _ _ (leL_refl _) (c_breeze _ _) rfl ?_
  conv => whnf
  refine .mk _ _ _ _ _ (leL_refl _) (a_Balance _ 1 (-2048) (by kernel_rfl)) rfl ?_
  conv => whnf
  refine .mk _ _ _ _ _ (leL_refl _) (c_sample _) rfl ?_
  conv => whnf
  refine .mk _ _ _ _ _ (leL_refl _) (c_breeze _ _) rfl ?_
  conv => whnf
  refine .mk _ _ _ _ _ (leL_refl _) (a_Balance _ 2 8192 (by kernel_rfl)) rfl ?_
  conv => whnf
  refine .mk _ _ _ _ _ (leL_refl _) (c_sample _) rfl ?_
  conv => whnf
  refine .mk _ _ _ _ _ (leL_refl _) (c_breeze _ _) rfl ?_
  conv => whnf
  refine .mk _ _ _ _ _ (leL_refl _) (a_Find _ 0 3 1 3 0 (by kernel_rfl)) rfl ?_
  conv => whnf
  refine .mk _ _ _ _ _ (leL_refl _) (c_sample _) rfl ?_
  conv => whnf
  refine .mk _ _ _ _ _ (leL_refl _) (c_breeze _ _) rfl ?_
  conv => whnf
  refine .mk _ _ _ _ _ (leL_refl _) (a_Find _ 0 2 0 2 0 (by kernel_rfl)) rfl ?_
  conv => whnf
  refine .mk _ _ _ _ _ (leL_refl _) (c_sample _) rfl ?_
  conv => whnf
  refine .mk _ _ _ _ _ (leL_refl _) (c_breeze _ _) rfl ?_
  conv => whnf
  refine .mk _ _ _ _ _ (leL_refl _) (a_Find _ 1 3 0 3 0 (by kernel_rfl)) rfl ?_
  conv => whnf
  refine .mk _ _ _ _ _ (leL_refl _) (c_sample _) rfl ?_
  conv => whnf
  refine .mk _ _ _ _ _ (leL_refl _) (c_breeze _ _) rfl ?_
  conv => whnf
  refine .mk _ _ _ _ _ (leL_refl _) (a_Find _ (-1) 3 0 0 7 (by kernel_rfl)) rfl ?_
  conv => whnf
  refine .mk _ _ _ _ _ (leL_refl _) (c_sample _) rfl ?_
  conv => whnf
  refine .mk _ _ _ _ _ (leL_refl _) (c_breeze _ _) rfl ?_
  conv => whnf
  refine .mk _ _ _ _ _ (leL_refl _) (a_Thrust _) rfl ?_
  conv => whnf
  refine .mk _ _ _ _ _ (leL_refl _) (c_sample _) rfl ?_
  conv => whnf
  refine .mk _ _ _ _ _ (leL_refl _) (c_breeze _ _) rfl ?_
  conv => whnf
  refine .mk _ _ _ _ _ (leL_refl _) (a_Torque _ 0 3 512 512 (by kernel_rfl)) rfl ?_
  conv => whnf
  refine .mk _ _ _ _ _ (leL_refl _) (c_sample _) rfl ?_
  conv => whnf
  refine .mk _ _ _ _ _ (leL_refl _) (c_breeze _ _) rfl ?_
  conv => whnf
  refine .mk _ _ _ _ _ (leL_refl _) (a_Torque _ 0 2 (-522240) 512 (by kernel_rfl)) rfl ?_
  conv => whnf
  refine .mk _ _ _ _ _ (leL_refl _) (c_sample _) rfl ?_
  conv => whnf
  refine .mk _ _ _ _ _ (leL_refl _) (c_breeze _ _) rfl ?_
  conv => whnf
  refine .mk _ _ _ _ _ (leL_refl _) (a_Torque _ 1 3 0 1024 (by kernel_rfl)) rfl ?_
  conv => whnf
  refine .mk _ _ _ _ _ (leL_refl _) (c_sample _) rfl ?_
  conv => whnf
  refine .mk _ _ _ _ _ (leL_refl _) (c_breeze _ _) rfl ?_
  conv => whnf
  refine .mk _ _ _ _ _ (leL_refl _) (a_Best _) rfl ?_
  conv => whnf
  refine .mk _ _ _ _ _ (leL_refl _) (c_sample _) rfl ?_
  conv => whnf
  refine .mk _ _ _ _ _ (leL_refl _) (c_breeze _ _) rfl ?_
  conv => whnf
  refine .mk _ _ _ _ _ (leL_refl _) (a_Limit _ 512 0 (by kernel_rfl)) rfl ?_
  conv => whnf
  refine .mk _ _ _ _ _ (leL_refl _) (c_sample _) rfl ?_
  conv => whnf
  refine .mk _ _ _ _ _ (leL_refl _) (c_breeze _ _) rfl ?_
  conv => whnf
  refine .mk _ _ _ _ _ (leL_refl _) (a_Limit _ 511 7 (by kernel_rfl)) rfl ?_
  conv => whnf
  refine .mk _ _ _ _ _ (leL_refl _) (a_Split _) rfl ?_
  conv => whnf
  refine .mk _ _ _ _ _ (leL_refl _) (a_Turn _ hr) rfl ?_
  conv => whnf
  refine .mk _ _ _ _ _ (leL_refl _) (a_Merge _ 0 3 1 4 1 0 (by kernel_rfl)) rfl ?_
  conv => whnf
  refine .mk _ _ _ _ _ (leL_refl _) (a_Merge _ 1 0 0 0 0 30 (by kernel_rfl)) rfl ?_
  conv => whnf
  refine .mk _ _ _ _ _ (leL_refl _) (a_Times _) rfl ?_
  conv => whnf
  refine .mk _ _ _ _ _ (leL_refl _) (a_Norm _) rfl ?_
  conv => whnf
  refine .mk _ _ _ _ _ (leL_refl _) (a_Rotating _) rfl ?_
  conv => whnf
  refine .mk _ _ _ _ _ (leL_refl _) (a_Fixed _ hr) rfl ?_
  conv => whnf
  refine .mk _ _ _ _ _ (leL_refl _) (c_sample _) rfl ?_
  conv => whnf
  refine .mk _ _ _ _ _ (leL_refl _) (a_Print _ hp) rfl ?_
  conv => whnf
  refine ⟨?_, rfl⟩
  show IV.bool ((bytesS exT).toList == (bytesS exT).toList) = _
  rw [beq_self_eq_true]
end Go.Proofs.YtllmejkmogepjaaGreatDoor.Ix

/-
  Li1: RotorInflows: the law.
-/
namespace Go.Proofs.YtllmejkmogepjaaGreatDoor.Ix
open Go.Proofs
set_option maxRecDepth 100000
set_option linter.unusedVariables false
set_option linter.unusedSimpArgs false
variable {gl : Nat → IV}

theorem short_le {b : Bl} (h : b.short = true) : b.nl ≤ 1000000 ∧ b.nd ≤ 1000000 ∧ b.nr ≤ 1000000 := by
  unfold Bl.short at h
  simp at h
  omega

theorem inflR_z (b : Bl) (f : Fl) (ring a d : Int) : inflR b f ring a d = .tup [.int .i64 (zE (orE (ringErr b f ring) (indErr a d)) (b.infl f ring.toNat a d.toNat)), .int .i64 (orE (ringErr b f ring) (indErr a d))] := rfl
theorem balR_z (b : Bl) (f : Fl) (ring a d : Int) : balR b f ring a d = .tup [.int .i64 (zE (orE (ringErr b f ring) (indErr a d)) (b.bal f ring.toNat a d.toNat)), .int .i64 (orE (ringErr b f ring) (indErr a d))] := rfl
theorem classR_z (b : Bl) (f : Fl) (ring x : Int) : classR b f ring x = .tup [.int .i64 (zE (orE (ringErr b f ring) (withinS x 0 999999999)) (clsP b.nl (b.r3 ring.toNat) f.p x)), .int .i64 (orE (ringErr b f ring) (withinS x 0 999999999))] := rfl

/-- What is read behind each call. -/
def lvInflows : List (Nat × List Nat) := [(19, [3, 4, 5, 6, 7, 8, 9, 10, 11, 19]), (23, [3, 4, 5, 6, 7, 8, 9, 10, 11, 21, 23]), (26, [3, 4, 5, 6, 7, 8, 9, 10, 11, 26]), (29, [3, 4, 5, 6, 7, 8, 9, 10, 11, 29]), (35, [3, 4, 5, 6, 7, 8, 9, 10, 11, 35]), (40, [3, 4, 5, 6, 7, 8, 9, 10, 11, 40]), (46, [3, 4, 5, 6, 7, 8, 9, 10, 11, 46]), (51, [3, 4, 5, 6, 7, 8, 9, 10, 11, 51]), (57, [3, 4, 5, 6, 7, 8, 9, 10, 11, 57]), (64, [3, 4, 5, 6, 7, 8, 9, 10, 11, 12, 64]), (68, [3, 4, 5, 6, 7, 8, 9, 10, 11, 12, 13, 65, 68]), (70, [3, 4, 5, 6, 7, 8, 9, 10, 11, 12, 13, 70]), (74, [3, 4, 5, 6, 7, 8, 9, 10, 11, 12, 70, 71, 74]), (76, [3, 4, 5, 6, 7, 8, 9, 10, 11, 12, 70, 76]), (88, [3, 4, 5, 6, 7, 8, 9, 10, 11, 12, 14, 15, 16, 17, 18, 88]), (100, [3, 4, 5, 6, 7, 8, 9, 10, 11, 12, 14, 15, 16, 17, 18, 88, 100]), (114, [6, 7, 8, 9, 10, 11, 12, 14, 15, 16, 17, 18, 114]), (119, [6, 9, 10, 11, 12, 14, 15, 17, 18, 119]), (125, [6, 11, 12, 14, 18, 120, 125]), (132, [6, 127, 132])]
end Go.Proofs.YtllmejkmogepjaaGreatDoor.Ix
