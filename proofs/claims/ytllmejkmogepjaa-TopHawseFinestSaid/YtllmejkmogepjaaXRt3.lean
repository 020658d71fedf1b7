/-
  Rt3: TopHawseFinest answers true at all arguments.
-/
import Derived.Test.YtllmejkmogepjaaXRt2
namespace Go.Proofs.Ytllmejkmogepjaa.Ix
open Go.Proofs
set_option maxRecDepth 100000
set_option linter.unusedVariables false
variable {gl : Nat → IV}

theorem okS_good {b : Bl} {f : Fl} (h : okS b f = true) : Good b f ∧ b.nl ≤ 1000000 ∧ b.nd ≤ 1000000 ∧ b.nr ≤ 1000000 := by
  unfold okS at h
  simp only [Bool.and_eq_true, beq_iff_eq] at h
  have g : Good b f := ⟨h.1.1.2, h.1.2⟩
  have hs := h.1.1.1
  unfold Bl.short at hs
  simp at hs
  refine ⟨g, ?_, ?_, ?_⟩ <;> omega

theorem pow4_le {m : Nat} (h : m ≤ 12) : 0 < (4 : Int) ^ m ∧ (4 : Int) ^ m ≤ 16777216 := by
  have : m = 0 ∨ m = 1 ∨ m = 2 ∨ m = 3 ∨ m = 4 ∨ m = 5 ∨ m = 6 ∨ m = 7 ∨ m = 8 ∨ m = 9 ∨ m = 10 ∨ m = 11 ∨ m = 12 := by omega
  rcases this with h|h|h|h|h|h|h|h|h|h|h|h|h <;> subst h <;> decide

theorem c_TopHawseFinest (up : List Ces) (b : Bl) (f : Fl) (x0 x1 : Int) (h0 : 0 ≤ x0 ∧ x0 < 256) (h1 : 0 ≤ x1 ∧ x1 < 256) :
    Cs gl n_nacelletop_TopHawseFinest up [b.iv, f.iv, .agg [.int .u8 x0, .int .u8 x1]] (.bool true) up := by
  refine mk h_nacelletop_TopHawseFinest rfl rfl ?_
  conv => whnf
  refine .mk _ _ _ _ _ (leL_refl _) (c_hawseRotor _) rfl ?_
  conv => whnf
  refine .mk _ _ _ _ _ (leL_refl _) (c_hawseLight _ b f) rfl ?_
  conv => whnf
  split
  · conv => whnf
    refine .mk _ _ _ _ _ (leL_refl _) (c_hawseRotor _) rfl ?_
    conv => whnf
    exact ⟨rfl, rfl⟩
  · rename_i h
    have h : (!okS b f) = false := h
    obtain ⟨g, q1, q2, q3⟩ := okS_good (by simpa using h)
    obtain ⟨hnd, hn1, hn2, ok⟩ := g.all
    clear h
    obtain ⟨i, hi, er⟩ : ∃ i : Nat, i < b.nr ∧ (w64 x0).tmod b.nr = i := by
      have e : w64 x0 = x0 := by rw [w64, wrap_in] <;> omega
      refine ⟨(x0 % b.nr).toNat, ?_, ?_⟩
      · have := Int.emod_lt_of_pos x0 (show (0 : Int) < b.nr by omega)
        have := Int.emod_nonneg x0 (show (b.nr : Int) ≠ 0 by omega)
        omega
      · rw [e, Int.tmod_eq_emod_of_nonneg (by omega)]
        have := Int.emod_nonneg x0 (show (b.nr : Int) ≠ 0 by omega)
        omega
    obtain ⟨D, hD, ed⟩ : ∃ D : Nat, D < 10 ∧ IntKind.i64.wrap (1 + (IntKind.i64.wrap x1).tmod 10) = ((D + 1 : Nat) : Int) := by
      have e : w64 x1 = x1 := by rw [w64, wrap_in] <;> omega
      refine ⟨(x1 % 10).toNat, by omega, ?_⟩
      show w64 (1 + (w64 x1).tmod 10) = _
      rw [e, Int.tmod_eq_emod_of_nonneg (by omega), w64, wrap_in] <;> omega
    conv => whnf
    refine .mk 13 (by kernel_rfl) ?_
    conv => whnf
    split
    rotate_left
    · rename_i h
      have h : ((b.nr : Int) != 0) = false := h
      simp at h
      omega
    conv => whnf
    refine .mk 13 (by kernel_rfl) ?_
    conv => whnf
    refine .mk _ _ _ (leL_refl _) (c_hawseBlade _ b q1 q2 q3) rfl ?_
    conv => whnf
    refine .mk _ _ _ (leL_refl _) (c_hawseFlow _ f _) rfl ?_
    conv => whnf
    rw [er, ed]
    have hF : ∀ (E : Nat), E < 12 → ∀ up, Cs gl n_rotor_Find up [b.iv, f.iv, .int .i64 i, .int .i64 ((E + 1 : Nat) : Int)] (match b.br f i E with
      | none => .tup [.agg [.int .i64 0, .int .i64 0], .int .i64 7]
      | some a => .tup [.agg [.int .i64 a, .int .i64 ((E + 1 : Nat) : Int)], .int .i64 0]) up := fun E hE up => by
      have := c_Find (gl := gl) up b f i ((E + 1 : Nat) : Int)
      rw [findR_ok g hi hE] at this
      exact this
    have hF0 := hF 0 (by omega)
    have hFD := hF D (by omega)
    by_cases hs : (b.br f i 0).isSome = true
    rotate_left
    · have n0 : b.br f i 0 = none := by simpa using hs
      have nD : b.br f i D = none := (br_none_iff 0 D).1 n0
      rw [n0] at hF0
      rw [nD] at hFD
      refine .mk _ _ _ (leL_refl _) (hF0 _) rfl ?_
      conv => whnf
      refine .mk 14 (by kernel_rfl) ?_
      conv => whnf
      refine .mk _ _ _ (leL_refl _) (c_hawseBlade _ b q1 q2 q3) rfl ?_
      conv => whnf
      refine .mk _ _ _ (leL_refl _) (c_hawseFlow _ f _) rfl ?_
      conv => whnf
      refine .mk _ _ _ (leL_refl _) (hFD _) rfl ?_
      conv => whnf
      exact ⟨rfl, rfl⟩
    · rw [br_at hs] at hF0
      rw [br_at (br_some_all hs D)] at hFD
      refine .mk _ _ _ (leL_refl _) (hF0 _) rfl ?_
      conv => whnf
      refine .mk 14 (by kernel_rfl) ?_
      conv => whnf
      refine .mk _ _ _ (leL_refl _) (c_hawseBlade _ b q1 q2 q3) rfl ?_
      conv => whnf
      refine .mk _ _ _ (leL_refl _) (c_hawseFlow _ f _) rfl ?_
      conv => whnf
      refine .mk _ _ _ (leL_refl _) (hFD _) rfl ?_
      conv => whnf
      have hB : ∀ (k : Nat) (a a' : Int), k < 12 → 0 ≤ a → a ≤ 2 ^ k → a' = a → ∀ up, Cs gl n_rotor_Balance up [b.iv, f.iv, .int .i64 i, .agg [.int .i64 a', .int .i64 ((k + 1 : Nat) : Int)]] (.tup [.int .i64 (b.bal f i a (k + 1)), .int .i64 0]) up := fun k a a' hk c0 c1 e up => by
        subst e
        have := c_Balance (gl := gl) up b f i a' ((k + 1 : Nat) : Int)
        rw [balR_ok g hi hk c0 c1] at this
        exact this
      have hR : ∀ (k : Nat), k + 1 < 12 → ∀ up, Cs gl n_rotor_Refine up [b.iv, f.iv, .int .i64 i, .agg [.int .i64 (b.at f i k), .int .i64 ((k + 1 : Nat) : Int)]] (.tup [.agg [.int .i64 (b.at f i (k + 1)), .int .i64 ((k + 1 + 1 : Nat) : Int)], .int .i64 0]) up := fun k hk up => by
        have := c_Refine (gl := gl) up b f i (b.at f i k) ((k + 1 : Nat) : Int)
        rw [refineR_ok g hi hk (br_some_all hs k)] at this
        exact this
      refine .mk (α := {k : Nat // k ≤ D}) (fun k => ⟨[(13, .int .i64 ((k.1 + 1 : Nat) : Int)), (8, .int .i64 ((D + 1 : Nat) : Int)), (7, .int .i64 i), (3, .ptr 0 3 0), (4, .ptr 0 4 0), (9, .ptr 0 9 0), (11, .ptr 0 11 0)],
        [(9, [.int .i64 (b.at f i k.1), .int .i64 ((k.1 + 1 : Nat) : Int)]), (11, [.int .i64 (b.at f i D), .int .i64 ((D + 1 : Nat) : Int)]), (3, [.lst none 1 b.nl fun i => [.int .i64 (b.lf i)], .lst none 1 b.nd fun i => [.int .i64 (b.df i)], .lst none 4 b.nr fun i => [.int .i64 (b.r1 i), .int .i64 (b.r2 i), .int .i64 (b.r3 i), .int .i64 (b.r4 i)]]), (4, [.int .i64 f.w, .int .i64 f.s, .int .i64 f.p])], up⟩) (fun k => D - k.1) ⟨0, Nat.zero_le _⟩ ⟨?_, ?_, rfl, rfl⟩ ?_
      · exact ⟨leV_refl _, leV_refl _, leV_refl _, leV_refl _, leV_refl _, leV_refl _, leV_refl _, trivial⟩
      · exact ⟨leL_refl _, leL_refl _, leL_refl _, leL_refl _, trivial⟩
      rintro ⟨k, hk⟩
      conv => whnf
      split
      · rename_i h
        have h : decide (((k + 1 : Nat) : Int) < ((D + 1 : Nat) : Int)) = true := h
        have hkD : k < D := by simp at h; omega
        obtain ⟨a1, a2, a3, a4⟩ := at_br (ok i hi) (br_some_all hs k)
        have hp := Int.pow_succ (2 : Int) k
        have hl := pow_le12 (d := k) (by omega)
        conv => whnf
        refine .mk 17 (by kernel_rfl) ?_
        conv => whnf
        split
        · rename_i h
          have h : (((k + 1 : Nat) : Int) != ((k + 1 : Nat) : Int)) = true := h
          simp at h
        conv => whnf
        split
        · rename_i h
          have h : decide (b.at f i k < 0) = true := h
          simp at h
          omega
        have ew : w64 (((k + 1 : Nat) : Int) - 1) = (k : Int) := by rw [w64, wrap_in] <;> omega
        have eh : halfW ((k + 1 : Nat) : Int) = 2 ^ k := by have := halfW_eq (d := k + 1) (by omega) (by omega); simpa using this
        have e1 : w64 (b.at f i k + 1) = b.at f i k + 1 := by rw [w64, wrap_in] <;> omega
        conv => whnf
        split
        rotate_left
        · rename_i h
          have h : decide (0 ≤ w64 (((k + 1 : Nat) : Int) - 1)) = false := h
          rw [ew] at h
          simp at h
        conv => whnf
        split
        · rename_i h
          have h : decide (b.at f i k ≥ halfW ((k + 1 : Nat) : Int)) = true := h
          rw [eh] at h
          simp at h
          omega
        conv => whnf
        refine .mk 13 (by kernel_rfl) ?_
        conv => whnf
        refine .mk _ _ _ (leL_refl _) (c_hawseBlade _ b q1 q2 q3) rfl ?_
        conv => whnf
        refine .mk _ _ _ (leL_refl _) (c_hawseFlow _ f _) rfl ?_
        conv => whnf
        refine .mk _ _ _ (leL_refl _) (hB k _ _ (by omega) a1 (by omega) rfl _) rfl ?_
        conv => whnf
        refine .mk 17 (by kernel_rfl) ?_
        conv => whnf
        refine .mk _ _ _ (leL_refl _) (c_hawseBlade _ b q1 q2 q3) rfl ?_
        conv => whnf
        refine .mk _ _ _ (leL_refl _) (c_hawseFlow _ f _) rfl ?_
        conv => whnf
        refine .mk _ _ _ (leL_refl _) (hB k (b.at f i k + 1) _ (by omega) (by omega) (by omega) e1 _) rfl ?_
        conv => whnf
        refine .mk 14 (by kernel_rfl) ?_
        conv => whnf
        refine .mk _ _ _ (leL_refl _) (c_hawseBlade _ b q1 q2 q3) rfl ?_
        conv => whnf
        refine .mk _ _ _ (leL_refl _) (c_hawseFlow _ f _) rfl ?_
        conv => whnf
        refine .mk _ _ _ (leL_refl _) (hR k (by omega) _) rfl ?_
        conv => whnf
        split
        · rename_i h
          have h : decide (b.bal f i (b.at f i k) (k + 1) > 0) = true := h
          simp at h
          omega
        conv => whnf
        split
        · rename_i h
          have h : decide (b.bal f i (b.at f i k + 1) (k + 1) ≤ 0) = true := h
          simp at h
          omega
        conv => whnf
        refine ⟨⟨k + 1, hkD⟩, ⟨⟨leV_int ?_, leV_refl _, leV_refl _, leV_refl _, leV_refl _, leV_refl _, leV_refl _, trivial⟩, ⟨leL_refl _, leL_refl _, leL_refl _, leL_refl _, trivial⟩, rfl, rfl⟩, (by show D - (k + 1) < D - k; omega)⟩
        show w64 (((k + 1 : Nat) : Int) + 1) = ((k + 1 + 1 : Nat) : Int)
        rw [w64, wrap_in] <;> omega
      · rename_i h
        have h : decide (((k + 1 : Nat) : Int) < ((D + 1 : Nat) : Int)) = false := h
        have hkD : k = D := by simp at h; omega
        subst hkD
        conv => whnf
        split
        · rename_i h
          have h : (!(b.at f i k == b.at f i k && (((k + 1 : Nat) : Int) == ((k + 1 : Nat) : Int) && true))) = true := h
          simp at h
        conv => whnf
        have hT : ∀ (E : Nat), E < 12 → ∀ up, Cs gl n_rotor_Torque up [b.iv, f.iv, .int .i64 ((E + 1 : Nat) : Int)] (if allBr b f 0 then .tup [.agg [.int .i64 (b.T f E).1, .int .i64 (b.T f E).2], .int .i64 0] else .tup [.agg [.int .i64 0, .int .i64 0], .int .i64 7]) up := fun E hE up => by
          rw [← torR_ok g hE]
          exact c_Torque up b f _
        have hU : ∀ (E : Nat), E < 12 → ∀ up, Cs gl n_rotor_Thrust up [b.iv, f.iv, .int .i64 ((E + 1 : Nat) : Int)] (if allBr b f 0 then .tup [.agg [.int .i64 (b.F f E).1, .int .i64 (b.F f E).2], .int .i64 0] else .tup [.agg [.int .i64 0, .int .i64 0], .int .i64 7]) up := fun E hE up => by
          rw [← thrR_ok g hE]
          exact c_Thrust up b f _
        refine .mk 13 (by kernel_rfl) ?_
        conv => whnf
        refine .mk _ _ _ (leL_refl _) (c_hawseBlade _ b q1 q2 q3) rfl ?_
        conv => whnf
        refine .mk _ _ _ (leL_refl _) (c_hawseFlow _ f _) rfl ?_
        conv => whnf
        by_cases hall : allBr b f 0
        rotate_left
        · simp only [if_neg hall] at hT hU
          refine .mk _ _ _ (leL_refl _) (hT k (by omega) _) rfl ?_
          conv => whnf
          refine .mk 13 (by kernel_rfl) ?_
          conv => whnf
          refine .mk _ _ _ (leL_refl _) (c_hawseBlade _ b q1 q2 q3) rfl ?_
          conv => whnf
          refine .mk _ _ _ (leL_refl _) (c_hawseFlow _ f _) rfl ?_
          conv => whnf
          refine .mk _ _ _ (leL_refl _) (hU k (by omega) _) rfl ?_
          conv => whnf
          refine .mk (α := {m : Nat // m ≤ k + 1}) (fun m => ⟨[(24, .int .i64 (4 ^ m.1)), (25, .int .i64 ((k + 1 - m.1 : Nat) : Int)), (21, .int .i64 7), (23, .int .i64 7), (20, .ptr 0 20 0), (22, .ptr 0 22 0), (3, .ptr 0 3 0), (4, .ptr 0 4 0)],
            [(20, [.int .i64 0, .int .i64 0]), (22, [.int .i64 0, .int .i64 0]), (3, [.lst none 1 b.nl fun i => [.int .i64 (b.lf i)], .lst none 1 b.nd fun i => [.int .i64 (b.df i)], .lst none 4 b.nr fun i => [.int .i64 (b.r1 i), .int .i64 (b.r2 i), .int .i64 (b.r3 i), .int .i64 (b.r4 i)]]), (4, [.int .i64 f.w, .int .i64 f.s, .int .i64 f.p])], up⟩) (fun m => k + 1 - m.1) ⟨0, Nat.zero_le _⟩ ⟨?_, ?_, rfl, rfl⟩ ?_
          · exact ⟨leV_refl _, leV_refl _, leV_refl _, leV_refl _, leV_refl _, leV_refl _, leV_refl _, leV_refl _, trivial⟩
          · exact ⟨leL_refl _, leL_refl _, leL_refl _, leL_refl _, trivial⟩
          rintro ⟨m, hm⟩
          conv => whnf
          split
          rotate_left
          · conv => whnf
            exact ⟨rfl, rfl⟩
          rename_i h
          have h : decide (((k + 1 - m : Nat) : Int) ≥ 1) = true := h
          have hmk : m ≤ k := by simp at h; omega
          have e4 : w64 (4 ^ m * 4) = 4 ^ (m + 1) := by
            rw [Int.pow_succ, w64]
            have := pow4_le (m := m) (by omega)
            rw [wrap_in] <;> omega
          have en : w64 (((k + 1 - m : Nat) : Int) - 1) = ((k + 1 - (m + 1) : Nat) : Int) := by rw [w64, wrap_in] <;> omega
          have hTm := hT (k - m) (by omega)
          have hUm := hU (k - m) (by omega)
          rw [show k - m + 1 = k + 1 - m by omega] at hTm hUm
          conv => whnf
          refine .mk 13 (by kernel_rfl) ?_
          conv => whnf
          refine .mk _ _ _ (leL_refl _) (c_hawseBlade _ b q1 q2 q3) rfl ?_
          conv => whnf
          refine .mk _ _ _ (leL_refl _) (c_hawseFlow _ f _) rfl ?_
          conv => whnf
          refine .mk _ _ _ (leL_refl _) (hTm _) rfl ?_
          conv => whnf
          refine .mk 13 (by kernel_rfl) ?_
          conv => whnf
          refine .mk _ _ _ (leL_refl _) (c_hawseBlade _ b q1 q2 q3) rfl ?_
          conv => whnf
          refine .mk _ _ _ (leL_refl _) (c_hawseFlow _ f _) rfl ?_
          conv => whnf
          refine .mk _ _ _ (leL_refl _) (hUm _) rfl ?_
          conv => whnf
          exact ⟨⟨m + 1, by omega⟩, ⟨⟨leV_int e4, leV_int en, leV_refl _, leV_refl _, leV_refl _, leV_refl _, leV_refl _, leV_refl _, trivial⟩, ⟨leL_refl _, leL_refl _, leL_refl _, leL_refl _, trivial⟩, rfl, rfl⟩, (by show k + 1 - (m + 1) < k + 1 - m; omega)⟩
        · simp only [if_pos hall] at hT hU
          refine .mk _ _ _ (leL_refl _) (hT k (by omega) _) rfl ?_
          conv => whnf
          refine .mk 13 (by kernel_rfl) ?_
          conv => whnf
          refine .mk _ _ _ (leL_refl _) (c_hawseBlade _ b q1 q2 q3) rfl ?_
          conv => whnf
          refine .mk _ _ _ (leL_refl _) (c_hawseFlow _ f _) rfl ?_
          conv => whnf
          refine .mk _ _ _ (leL_refl _) (hU k (by omega) _) rfl ?_
          conv => whnf
          refine .mk (α := {m : Nat // m ≤ k + 1}) (fun m => ⟨[(24, .int .i64 (4 ^ m.1)), (25, .int .i64 ((k + 1 - m.1 : Nat) : Int)), (21, .int .i64 0), (23, .int .i64 0), (20, .ptr 0 20 0), (22, .ptr 0 22 0), (3, .ptr 0 3 0), (4, .ptr 0 4 0)],
            [(20, [.int .i64 (b.T f k).1, .int .i64 (b.T f k).2]), (22, [.int .i64 (b.F f k).1, .int .i64 (b.F f k).2]), (3, [.lst none 1 b.nl fun i => [.int .i64 (b.lf i)], .lst none 1 b.nd fun i => [.int .i64 (b.df i)], .lst none 4 b.nr fun i => [.int .i64 (b.r1 i), .int .i64 (b.r2 i), .int .i64 (b.r3 i), .int .i64 (b.r4 i)]]), (4, [.int .i64 f.w, .int .i64 f.s, .int .i64 f.p])], up⟩) (fun m => k + 1 - m.1) ⟨0, Nat.zero_le _⟩ ⟨?_, ?_, rfl, rfl⟩ ?_
          · exact ⟨leV_refl _, leV_refl _, leV_refl _, leV_refl _, leV_refl _, leV_refl _, leV_refl _, leV_refl _, trivial⟩
          · exact ⟨leL_refl _, leL_refl _, leL_refl _, leL_refl _, trivial⟩
          rintro ⟨m, hm⟩
          conv => whnf
          split
          rotate_left
          · conv => whnf
            exact ⟨rfl, rfl⟩
          rename_i h
          have h : decide (((k + 1 - m : Nat) : Int) ≥ 1) = true := h
          have hmk : m ≤ k := by simp at h; omega
          have e4 : w64 (4 ^ m * 4) = 4 ^ (m + 1) := by
            rw [Int.pow_succ, w64]
            have := pow4_le (m := m) (by omega)
            rw [wrap_in] <;> omega
          have en : w64 (((k + 1 - m : Nat) : Int) - 1) = ((k + 1 - (m + 1) : Nat) : Int) := by rw [w64, wrap_in] <;> omega
          have hTm := hT (k - m) (by omega)
          have hUm := hU (k - m) (by omega)
          rw [show k - m + 1 = k + 1 - m by omega] at hTm hUm
          conv => whnf
          refine .mk 13 (by kernel_rfl) ?_
          conv => whnf
          refine .mk _ _ _ (leL_refl _) (c_hawseBlade _ b q1 q2 q3) rfl ?_
          conv => whnf
          refine .mk _ _ _ (leL_refl _) (c_hawseFlow _ f _) rfl ?_
          conv => whnf
          refine .mk _ _ _ (leL_refl _) (hTm _) rfl ?_
          conv => whnf
          refine .mk 13 (by kernel_rfl) ?_
          conv => whnf
          refine .mk _ _ _ (leL_refl _) (c_hawseBlade _ b q1 q2 q3) rfl ?_
          conv => whnf
          refine .mk _ _ _ (leL_refl _) (c_hawseFlow _ f _) rfl ?_
          conv => whnf
          refine .mk _ _ _ (leL_refl _) (hUm _) rfl ?_
          conv => whnf
          have hn := T_nested g hall (k - m) m
          rw [show k - m + m = k by omega] at hn
          have hf := F_nested g hall (k - m) m (by omega)
          rw [show k - m + m = k by omega] at hf
          have ew1 : w64 (4 ^ m * (b.F f (k - m)).1) = 4 ^ m * (b.F f (k - m)).1 := by rw [w64, wrap_in] <;> omega
          have ew2 : w64 (4 ^ m * (b.F f (k - m)).2) = 4 ^ m * (b.F f (k - m)).2 := by rw [w64, wrap_in] <;> omega
          split
          · rename_i h
            have h : decide ((b.T f (k - m)).1 > (b.T f k).1) = true := h
            simp at h
            omega
          conv => whnf
          split
          · rename_i h
            have h : decide ((b.T f (k - m)).2 < (b.T f k).2) = true := h
            simp at h
            omega
          conv => whnf
          split
          · rename_i h
            have h : decide (w64 (4 ^ m * (b.F f (k - m)).1) > (b.F f k).1) = true := h
            rw [ew1] at h
            simp at h
            omega
          conv => whnf
          split
          · rename_i h
            have h : decide (w64 (4 ^ m * (b.F f (k - m)).2) < (b.F f k).2) = true := h
            rw [ew2] at h
            simp at h
            omega
          conv => whnf
          exact ⟨⟨m + 1, by omega⟩, ⟨⟨leV_int e4, leV_int en, leV_refl _, leV_refl _, leV_refl _, leV_refl _, leV_refl _, leV_refl _, trivial⟩, ⟨leL_refl _, leL_refl _, leL_refl _, leL_refl _, trivial⟩, rfl, rfl⟩, (by show k + 1 - (m + 1) < k + 1 - m; omega)⟩
end Go.Proofs.Ytllmejkmogepjaa.Ix
